/- remnant's Largest, Taken (printed by wip/gen_rei.py). -/
import Derived.Test.YtfmhickjefogdaaGreatPk05
import Derived.Test.YtfmhickjefogdaaGreatPk18
import Derived.Test.YtfmhickjefogdaaGreatPk08
set_option linter.unusedSimpArgs false
set_option linter.unusedVariables false

/- Regions that draw their order, with several new variables that are not one another. -/
namespace Go.Proofs.YtfmhickjefogdaaGreat
open Go.RowKit
section
variable {a0 : Act} {ps : List (Nat × Nat)} {T : QTab} {E : List Ob} {hs : List (Nat × Hint)}
def evNd (a0 : Act) (E : List Ob) (W : World) (ops : List Oper) (its : List NW) (outs : List (Nat × Value)) (Q : Act → World → Prop) (S : List Ent) : Prop :=
  nwX S its ∧ ∀ (f : Nat → Value), match a0 with
    | ⟨⟨l⟩, d⟩ => finS E outs f S l fun l' => setsN f (spD (nwSp its) 0 ops) l' fun l'' => ∀ w', Below W.heap.size W w' → (∀ it ∈ its, ∃ b, f it.nA = .pointer (some ⟨b, 0, none⟩) ∧ W.heap.size ≤ b ∧ ObjAt w' b it.cells it.ty) → (∀ it ∈ its, ∀ jt ∈ its, it.A ≠ jt.A → ∀ b c, f it.nA = .pointer (some ⟨b, 0, none⟩) → f jt.nA = .pointer (some ⟨c, 0, none⟩) → b ≠ c) → Q ⟨l''.toArray, d⟩ w'
theorem wp_region_nd {id : Nat} {Q : Exit → Act → World → Prop} {w : World} {ops : List Oper} (T : QTab) (hT : T.Ok) (E : List Ob) (ps : List (Nat × Nat)) (hs : List (Nat × Hint)) (outs : List (Nat × Value))
    (its : List NW)
    (hz : (ops.all fun o => match o.dst with | some n => decide (n < a0.tmps.size) | none => true) = true) (hm : Tryz.prog.follows .mixedOrders = true)
    (hst : (ordB ops.toArray && nodB (dstsL ops) && chkB ops.toArray (quietL (nwSp its) 0 ops) && depB (nwSp its) ops.toArray) = true)
    (hnd : (nwSp its).Nodup)
    (hits : ∀ it ∈ its, NWOK ops it)
    (hE : ObsIn (Below w.heap.size w) E) (P : psOk a0 E ps)
    (h : evL a0 ps T E (Below w.heap.size w) (fun u u' => Below u.heap.size u u') hs ops (evNd a0 E w ops its outs (Q .normal)) (quietL (nwSp its) 0 ops) []) : (Code.region id ops.toArray true).wp Tryz.prog Q a0 w := by
  have hst' := hst
  simp only [Bool.and_eq_true] at hst'
  obtain ⟨⟨⟨s1, s2⟩, s3⟩, s4⟩ := hst'
  -- which operation is whose
  have key : ∀ it ∈ its, ∀ jt ∈ its, (it.A = jt.A → it = jt) ∧ (it.B = jt.B → it = jt) ∧ it.A ≠ jt.B := by
    clear hits h hst s3 s4
    induction its with
    | nil => intro it hit; cases hit
    | cons x l ih =>
      have hnd' := hnd
      unfold nwSp at hnd'
      rw [List.nodup_cons, List.nodup_cons] at hnd'
      obtain ⟨n1, n2, n3⟩ := hnd'
      rw [List.mem_cons, not_or] at n1
      have hx : ∀ jt ∈ l, x.A ≠ jt.A ∧ x.A ≠ jt.B ∧ x.B ≠ jt.A ∧ x.B ≠ jt.B := fun jt hj => ⟨fun e => n1.2 (mem_nwSp.2 ⟨jt, hj, .inl e⟩), fun e => n1.2 (mem_nwSp.2 ⟨jt, hj, .inr e⟩), fun e => n2 (mem_nwSp.2 ⟨jt, hj, .inl e⟩), fun e => n2 (mem_nwSp.2 ⟨jt, hj, .inr e⟩)⟩
      intro it hit jt hjt
      rcases List.mem_cons.1 hit with e | hit2 <;> rcases List.mem_cons.1 hjt with e' | hjt2
      · subst e; subst e'; exact ⟨fun _ => rfl, fun _ => rfl, n1.1⟩
      · subst e; have := hx jt hjt2; exact ⟨fun e => absurd e this.1, fun e => absurd e this.2.2.2, this.2.1⟩
      · subst e'; have := hx it hit2; exact ⟨fun e => absurd e.symm this.1, fun e => absurd e.symm this.2.2.2, fun e => this.2.2.1 e.symm⟩
      · exact ih n3 it hit2 jt hjt2
  have hsub : ∀ o ∈ quietL (nwSp its) 0 ops, o ∈ ops := fun o ho => by obtain ⟨k, hk, _⟩ := mem_quietL ho; exact List.mem_of_getElem? hk
  obtain ⟨S, H, af, I, ⟨h1, h2⟩, f1, f2, f3⟩ := evL_fin P hT hE hz _ [] [] a0 hsub s3 InvQ.start h
  refine mix_core (nwSp its) E (Below w.heap.size w) (fun u u' => Below u.heap.size u u') outs (NWJ its w.heap.size) hz hm hst ((Below.refl _ _).drew) ⟨fun it _ => ⟨fun _ => rfl, fun v hv => by cases hv⟩, fun it _ jt _ _ b c hv => by cases hv⟩ (fun u u' h1 h2 => h1.trans (h2.mono h1.size)) (fun u _ => Below.refl _ _) (fun s u u' h1 h2 h3 => ⟨fun it hit => ⟨(h2.1 it hit).1, fun v hv => ?_⟩, h2.2⟩) I ⟨spec_nw fun i hi => ?_, fun f s hsv => ?_⟩ f1 f2 f3
  · obtain ⟨b, e1, e2, e3⟩ := (h2.1 it hit).2 v hv
    exact ⟨b, e1, e2, e3.keep h3⟩
  · obtain ⟨it, hit, hi'⟩ := mem_nwSp.1 hi
    have hO := hits it hit
    obtain ⟨oA, hA1, hA2, hA3⟩ := hO.hA
    obtain ⟨oB, hB1, hB2, hB3, eB, hB4, hB5, hB6⟩ := hO.hB
    have hAB : it.A ≠ it.B := (key it hit it hit).2.2
    rcases hi' with e | e
    · -- it is made
      subst e
      intro o a u s ho hC hJ hn _ _ hdep K hK
      rw [hA1] at ho; cases ho
      refine wp_of_run (v := .pointer (some ⟨u.heap.size, 0, none⟩)) (w' := u.alloc (.cells it.zero it.ty)) ?_ ?_
      · unfold execOp; simp only [hA2, Sem.run_bind, hO.halloc]; rfl
      · have hsB : s it.B = none := (hJ.1 it hit).1 hn
        refine hK _ _ (hC.alloc hC.size _) ⟨fun jt hjt => ?_, fun jt hjt kt hkt hne b c hb hc => ?_⟩
        · by_cases e : jt.A = it.A
          · have e' := (key jt hjt it hit).1 e
            subst e'
            refine ⟨fun h => (by rw [updS_same] at h; cases h), fun v hv => ?_⟩
            rw [updS_same] at hv; cases hv
            refine ⟨_, rfl, hC.size, ?_⟩
            rw [updS_other (Ne.symm hAB), hsB]
            exact ObjAt.new u _ _
          · have e2 : jt.B ≠ it.A := fun e2 => (key it hit jt hjt).2.2 e2.symm
            rw [updS_other e, updS_other e2]
            refine ⟨(hJ.1 jt hjt).1, fun v hv => ?_⟩
            obtain ⟨b, b1, b2, b3⟩ := (hJ.1 jt hjt).2 v hv
            exact ⟨b, b1, b2, b3.alloc _⟩
        · have fresh : ∀ qt ∈ its, ∀ d, s qt.A = some (.pointer (some ⟨d, 0, none⟩)) → d < u.heap.size := fun qt hqt d hd => by
            obtain ⟨b', b1, _, b3⟩ := (hJ.1 qt hqt).2 _ hd
            simp only [Value.pointer.injEq, Option.some.injEq, Addr.mk.injEq, and_true] at b1
            subst b1
            exact b3.lt
          by_cases e : jt.A = it.A
          · rw [e, updS_same] at hb
            simp only [Option.some.injEq, Value.pointer.injEq, Addr.mk.injEq, and_true] at hb
            have e2 : kt.A ≠ it.A := fun e2 => hne (e.trans e2.symm)
            rw [updS_other e2] at hc
            have := fresh kt hkt c hc
            omega
          · rw [updS_other e] at hb
            by_cases e2 : kt.A = it.A
            · rw [e2, updS_same] at hc
              simp only [Option.some.injEq, Value.pointer.injEq, Addr.mk.injEq, and_true] at hc
              have := fresh jt hjt b hb
              omega
            · rw [updS_other e2] at hc
              exact hJ.2 jt hjt kt hkt hne b c hb hc
    · -- it is written
      subst e
      intro o a u s ho hC hJ hn hq hold hdep K hK
      rw [hB1] at ho; cases ho
      obtain ⟨v, v1, v2⟩ := hdep eB hB4 hB6 (by rw [hB5]; simpa using mem_nwSp.2 ⟨it, hit, .inl rfl⟩)
      rw [hB5] at v1 v2
      obtain ⟨b, e1, e2, e3⟩ := (hJ.1 it hit).2 v v1
      have hx : a.eval (.tmp it.nX) = .agg it.cells := by
        have h1' := nwX_at h1 hit
        split at h1'
        · rename_i m x hl
          subst h1'
          exact hq it.nX (by unfold Oper.looksAt; rw [hB2]; simp [Op.operands]) _ hl rfl
        · cases h1'
      have hp : a.eval (.tmp it.nA) = .pointer (some ⟨b, 0, none⟩) := (v2 oA it.nA hA1 hA3).trans e1
      rw [hn] at e3
      have e3' : ObjAt u b it.zero it.ty := e3
      refine wp_of_skip (w' := u.setRow b it.cells) ?_ ?_
      · unfold execOp
        simp only [hB2, Sem.run_bind, hp, hx, Instr.storeAt, Instr.sureAddr, Sem.run_pure, Result.andThen_ok, run_storeVar_row (P := Tryz.prog) u b it.ty it.ty it.zero it.cells e3' hO.hi hO.hzs hO.hone]
      · refine hK _ _ (below_setRow hC e2 _) ⟨fun jt hjt => ?_, fun jt hjt kt hkt hne b c hb hc => ?_⟩
        · have ejA : jt.A ≠ it.B := (key jt hjt it hit).2.2
          rw [updS_other ejA]
          by_cases e : jt.A = it.A
          · have e' := (key jt hjt it hit).1 e
            subst e'
            refine ⟨fun h => (by rw [v1] at h; cases h), fun v' hv' => ?_⟩
            rw [v1] at hv'; cases hv'
            refine ⟨b, e1, e2, ?_⟩
            rw [updS_same]
            exact setRow_heap _ _ _ _ _ _ e3'
          · have ejB : jt.B ≠ it.B := fun e4 => e (congrArg NW.A ((key jt hjt it hit).2.1 e4))
            rw [updS_other ejB]
            refine ⟨(hJ.1 jt hjt).1, fun v' hv' => ?_⟩
            obtain ⟨b', b1, b2, b3⟩ := (hJ.1 jt hjt).2 v' hv'
            refine ⟨b', b1, b2, ?_⟩
            have hne : b' ≠ b := hJ.2 jt hjt it hit e b' b (by rw [hv', b1]) (by rw [v1, e1])
            exact (setRow_other u b b' it.cells hne).trans b3
        · rw [updS_other ((key jt hjt it hit).2.2)] at hb
          rw [updS_other ((key kt hkt it hit).2.2)] at hc
          exact hJ.2 jt hjt kt hkt hne b c hb hc
  · obtain ⟨⟨l⟩, d⟩ := a0
    dsimp only at h2 ⊢
    refine finS_mono (fun l' hl' => ?_) (h2 f)
    refine setsN_mono (fun l'' hl'' => ?_) hl'
    intro w' hC hJ
    refine hl'' w' hC (fun it hit => ?_) (fun it hit jt hjt hne b c hb hc => ?_)
    rotate_left
    · obtain ⟨oA, hA1, _, hA3⟩ := (hits it hit).hA
      obtain ⟨oC, hC1, _, hC3⟩ := (hits jt hjt).hA
      obtain ⟨v, v1, v2⟩ := hsv it.A (by simpa using mem_nwSp.2 ⟨it, hit, .inl rfl⟩) oA hA1
      obtain ⟨u, u1, u2⟩ := hsv jt.A (by simpa using mem_nwSp.2 ⟨jt, hjt, .inl rfl⟩) oC hC1
      exact hJ.2 it hit jt hjt hne b c (by rw [v1, v2 it.nA hA3, hb]) (by rw [u1, u2 jt.nA hC3, hc])
    have hO := hits it hit
    obtain ⟨oA, hA1, hA2, hA3⟩ := hO.hA
    obtain ⟨oB, hB1, _⟩ := hO.hB
    obtain ⟨v, v1, v2⟩ := hsv it.A (by simpa using mem_nwSp.2 ⟨it, hit, .inl rfl⟩) oA hA1
    obtain ⟨vB, vB1, _⟩ := hsv it.B (by simpa using mem_nwSp.2 ⟨it, hit, .inr rfl⟩) oB hB1
    obtain ⟨b', e1, e2, e3⟩ := (hJ.1 it hit).2 v v1
    rw [vB1] at e3
    exact ⟨b', (v2 it.nA hA3).symm.trans e1, e2, e3⟩
end
end Go.Proofs.YtfmhickjefogdaaGreat

/- remnant.Frees (printed by wip/gen_ref.py). -/
namespace Go.Proofs.YtfmhickjefogdaaGreat
open Go.RowKit

def gmEn3 : FuncId → Bool
  | 50 => true
  | f => gmEn2 f
theorem gmEn3_ok (f : FuncId) (h : gmEn3 f = true) (args : Array Value) (w : World) : (callFunc f args).run Tryz.prog w = .ok (.enter f args) w := by
  unfold gmEn3 at h
  split at h
  · exact enters_of Tryz.func50 (by kernel_rfl) rfl args w
  · exact gmEn2_ok _ h args w
def gmT3 : QTab := { gmT with en := gmEn3 }
theorem gmT3_ok : gmT3.Ok := { gmT_ok with en := gmEn3_ok }
def WidR (L : Int) (tk : List Rct) (r : Rct) : Prop := freeB L tk ⟨r.x0 - 1, r.y0, r.x1, r.y1⟩ = false ∧ freeB L tk ⟨r.x0, r.y0, r.x1 + 1, r.y1⟩ = false
def PrS (L W : Int) (tk : List Rct) (xs : List Int) (i j : Nat) (r : Rct) : Prop := ColS W (spnL W tk (gi xs i) (gi xs j)) (gi xs i) (gi xs j) r ∧ WidR L tk r
def UpO (L W : Int) (tk : List Rct) (xs : List Int) (k : Nat) (r : Rct) : Prop := ∃ i j, i < k ∧ i < j ∧ j < xs.length ∧ PrS L W tk xs i j r
def UpM (L W : Int) (tk : List Rct) (xs : List Int) (k m : Nat) (r : Rct) : Prop := UpO L W tk xs k r ∨ ∃ j, k < j ∧ j < k + 1 + m ∧ PrS L W tk xs k j r
def UpI (L W : Int) (tk : List Rct) (xs : List Int) (k m : Nat) (cs : List Rct) (n : Nat) (r : Rct) : Prop := UpM L W tk xs k m r ∨ ∃ i, i < n ∧ r = rci cs i ∧ WidR L tk r
theorem upM_zero {L W : Int} {tk : List Rct} {xs : List Int} {k : Nat} {r : Rct} : UpM L W tk xs k 0 r ↔ UpO L W tk xs k r :=
  ⟨fun h => by rcases h with h | ⟨j, h1, h2, _⟩; exact h; omega, .inl⟩
theorem upI_zero {L W : Int} {tk : List Rct} {xs : List Int} {k m : Nat} {cs : List Rct} {r : Rct} : UpI L W tk xs k m cs 0 r ↔ UpM L W tk xs k m r :=
  ⟨fun h => by rcases h with h | ⟨j, h1, _⟩; exact h; omega, .inl⟩
theorem upO_zero {L W : Int} {tk : List Rct} {xs : List Int} {r : Rct} : UpO L W tk xs 0 r ↔ False :=
  ⟨fun ⟨i, _, h, _⟩ => by omega, False.elim⟩
theorem upI_done {L W : Int} {tk : List Rct} {xs : List Int} {k m : Nat} {cs : List Rct} (hc : ∀ r, r ∈ cs ↔ ColS W (spnL W tk (gi xs k) (gi xs (k + 1 + m))) (gi xs k) (gi xs (k + 1 + m)) r) {r : Rct} : UpI L W tk xs k m cs cs.length r ↔ UpM L W tk xs k (m + 1) r := by
  constructor
  · rintro ((h | ⟨j, h1, h2, h3⟩) | ⟨i, h1, rfl, h3⟩)
    · exact .inl h
    · exact .inr ⟨j, h1, by omega, h3⟩
    · exact .inr ⟨k + 1 + m, by omega, by omega, (hc _).1 (rci_mem h1), h3⟩
  · rintro (h | ⟨j, h1, h2, h3, h4⟩)
    · exact .inl (.inl h)
    · by_cases e : j = k + 1 + m
      · subst e
        obtain ⟨i, hi, e⟩ := List.mem_iff_getElem.1 ((hc r).2 h3)
        exact .inr ⟨i, hi, by rw [rci_lt hi, e], h4⟩
      · exact .inl (.inr ⟨j, h1, by omega, h3, h4⟩)
theorem upM_done {L W : Int} {tk : List Rct} {xs : List Int} {k m : Nat} (hm : m = xs.length - (k + 1)) {r : Rct} : UpM L W tk xs k m r ↔ UpO L W tk xs (k + 1) r := by
  constructor
  · rintro (⟨i, j, h1, h2, h3, h4⟩ | ⟨j, h1, h2, h3⟩)
    · exact ⟨i, j, by omega, h2, h3, h4⟩
    · exact ⟨k, j, by omega, h1, by omega, h3⟩
  · rintro ⟨i, j, h1, h2, h3, h4⟩
    by_cases e : i = k
    · subst e; exact .inr ⟨j, h2, by omega, h4⟩
    · exact .inl ⟨i, j, by omega, h2, h3, h4⟩
theorem upI_step {L W : Int} {tk : List Rct} {xs : List Int} {k m : Nat} {cs : List Rct} {n : Nat} {r : Rct} : UpI L W tk xs k m cs (n + 1) r ↔ UpI L W tk xs k m cs n r ∨ (r = rci cs n ∧ WidR L tk r) := by
  constructor
  · rintro (h | ⟨i, h1, h2, h3⟩)
    · exact .inl (.inl h)
    · by_cases e : i = n
      · subst e; exact .inr ⟨h2, h3⟩
      · exact .inl (.inr ⟨i, by omega, h2, h3⟩)
  · rintro ((h | ⟨i, h1, h2, h3⟩) | ⟨h2, h3⟩)
    · exact .inl h
    · exact .inr ⟨i, by omega, h2, h3⟩
    · exact .inr ⟨n, by omega, h2, h3⟩
theorem upO_fre {L W : Int} {tk : List Rct} {xs : List Int} (hx : SidL L tk xs) {r : Rct} : UpO L W tk xs xs.length r ↔ FreS L W tk r := by
  have asc : ∀ i j, i < j → j < xs.length → gi xs i < gi xs j := fun i j hij hj => by
    have := List.pairwise_iff_getElem.1 hx.asc i j (by omega) hj hij
    rwa [gi_lt (by omega), gi_lt hj]
  constructor
  · rintro ⟨i, j, h1, h2, h3, h4, h5⟩
    have e0 := h4.x0
    have e1 := h4.x1
    have m0 : gi xs i ∈ xs := by rw [gi_lt h1]; exact List.getElem_mem _
    have m1 : gi xs j ∈ xs := by rw [gi_lt h3]; exact List.getElem_mem _
    refine ⟨by rw [e0]; exact (hx.mem _).1 m0, by rw [e1]; exact (hx.mem _).1 m1, by rw [e0, e1]; exact asc i j h2 h3, by rw [e0, e1]; exact h4, h5.1, h5.2⟩
  · intro h
    obtain ⟨i, hi, ei⟩ := List.mem_iff_getElem.1 ((hx.mem _).2 h.s0)
    obtain ⟨j, hj, ej⟩ := List.mem_iff_getElem.1 ((hx.mem _).2 h.s1)
    rw [← gi_lt hi] at ei
    rw [← gi_lt hj] at ej
    have hij : i < j := by
      rcases Nat.lt_or_ge i j with q | q
      · exact q
      · have h3 := h.lt
        rcases Nat.lt_or_eq_of_le q with q | q
        · have := asc j i q hi; omega
        · subst q; omega
    exact ⟨i, j, hi, hij, hj, by rw [ei, ej]; exact h.c, h.f0, h.f1⟩
theorem ColS.sm {W a b : Int} {bs : List Spn} {r : Rct} (h : ColS W bs a b r) (ha : 0 ≤ a ∧ a ≤ 40000) (hb : 0 ≤ b ∧ b ≤ 40000) (hW : W ≤ 40000) : SmRc r := by
  have hy1 : r.y1 ≤ W := by obtain ⟨s, _, h1, _⟩ := h.s; rw [h1]; exact Int.min_le_right _ _
  have e0 := h.x0
  have e1 := h.x1
  have y := h.y
  have y0 := h.y0
  unfold SmRc
  omega
def RetFr (L W gp : Int) (ts : List Rct) (w : World) (e : Ending) (w' : World) : Prop := ∃ v m, e = .returned v ∧ SRc w' v m ∧ (∀ r, r ∈ m ↔ FreS L W (tkE gp ts) r) ∧ m.length ≤ 1000000 ∧ Below w.heap.size w w'
set_option maxRecDepth 100000 in
set_option maxHeartbeats 8000000 in
theorem eFrees_any (L W gp : Int) (v : Value) (ts : List Rct) (w : World) (h : SRc w v ts) (hp : PlIn L W gp ts) : Calls Tryz.prog 18 #[.int .i64 L, .int .i64 W, v, .int .i64 gp] w (RetFr L W gp ts w) := by
  have HS := Lib.hid h
  have HP := Lib.hid hp
  clear h hp
  go_enter Tryz.func18, Tryz.ntmps18
  go_wp2_with fail
  refine (eRight_any L W gp _ ts w HS.out HP.out).mono ?_
  rintro e w1 ⟨rfl, hb1⟩
  have HB1 := Lib.hid hb1
  clear hb1
  go_wp2_with fail
  refine (eNewPlate_any L W gp _ ts w1 (HS.out.keep HB1.out) HP.out).mono ?_
  rintro e w2 ⟨v2, rfl, ho2, hb2⟩
  have HB2 := Lib.hid (ext_trans HB1.out hb2)
  have HS2 := Lib.hid ho2.s
  have HTK := Lib.hid (tkE_ok HP.out)
  have HTN : Hid ((tkE gp ts).length ≤ 32) := Nat.le_trans (tkE_len gp ts) HP.out.n
  clear hb2 ho2 HS HB1
  obtain ⟨tk, htk⟩ : ∃ tk, tkE gp ts = tk := ⟨_, rfl⟩
  rw [htk] at HS2 HTK HTN
  have HTE := Lib.hid htk
  clear htk
  obtain ⟨ta, tc, rfl, _⟩ := HS2.out
  obtain ⟨W3, HP3, HB3', HW3⟩ := newObj w2 #[.int .i64 L, .int .i64 W, .slice ta tk.length tc] 91
  have HB3 := Lib.hid (ext_trans HB2.out HB3'.out)
  have HS3 := Lib.hid (HS2.out.keep HB3'.out)
  obtain ⟨bp, hbp⟩ : ∃ b, w2.heap.size = b := ⟨_, rfl⟩
  rw [hbp] at HP3
  go_wp2_with fail
  rw [HW3.out]
  clear hbp HW3 HB3' HB2 HS2
  refine (eSides_any L W _ tk W3 HS3.out (by have := HP.out.l0; omega) HTN.out).mono ?_
  rintro e w5 ⟨v5, xs, rfl, hs5, hx5, hb5⟩
  have HB5 := Lib.hid (ext_trans HB3.out hb5)
  have HP5 := Lib.hid (HP3.out.keep hb5)
  have HS5 := Lib.hid (HS3.out.keep hb5)
  have HX5 := Lib.hid hx5
  have hxl : xs.length ≤ 66 := by have := hx5.len; have := HTN.out; omega
  have HG : Hid (∀ i, i < xs.length → 0 ≤ gi xs i ∧ gi xs i ≤ 40000) := fun i hi => by
    have := (HX5.out.mem (gi xs i)).1 (by rw [gi_lt hi]; exact List.getElem_mem _)
    have h1 := this.1
    have h2 := this.2.1
    have := HP.out.l1
    omega
  clear hb5 hx5 HP3 HS3 HB3
  have HV5 := Lib.hid hs5
  obtain ⟨xa, xc, rfl, c0, c1, q5⟩ := hs5
  have Q5 := Lib.hid q5
  clear q5
  go_wp2_with fail
  go_loopw [8, 34] (fun v i wr => ∃ (k : Nat) (l : List Rct), k ≤ xs.length ∧ i = .int .i64 k ∧ Hid (Below w5.heap.size w5 wr) ∧ Hid (OwnRc wr w5.heap.size v l) ∧ Hid (l.length ≤ k * 2700) ∧ Hid (∀ r, r ∈ l ↔ UpO L W tk xs k r)) (fun _ i _ => xs.length - (intOf i).toNat)
  case atStart => exact ⟨0, [], Nat.zero_le _, rfl, Below.refl _ _, OwnRc_nil _ _, Nat.zero_le _, fun r => ⟨fun h => by (cases h), fun h => (upO_zero.1 h).elim⟩⟩
  case round =>
    obtain ⟨k, l, hk, rfl, hb, ho, hl, hm⟩ := hrel
    by_cases hlt : k < xs.length
    · have i1 : (k : Int) < xs.length := by omega
      obtain ⟨pb, po, rfl, hc⟩ := Q5.out k hlt
      have c0 := cell_keep hb.out hc
      clear hc
      obtain ⟨fr, hfr⟩ : ∃ x, Hid (gi xs k = x) := ⟨_, rfl⟩
      rw [hfr.out] at c0
      go_upto_region 8 with fail
      clear c0
      have HLQ : Hid (l.length ≤ k * 2700) := hl
      go_upto_region 9 with fail
      · have HE : Hid (0 = xs.length - (k + 1)) := by show _ = _; omega
        have i9 : ¬ (0 : Int) < ((xs.length - xc : Nat) : Int) := by omega
        rw [← h]
        clear h
        refine wp_loop_rounds 1 ?_
        rw [rounds_succ]
        go_wp2_with fail
        go_roundw
        case rel => exact ⟨k + 1, l, by omega, by go_num, hb, ho, Nat.le_trans HLQ.out (by omega), fun r => (hm.out r).trans (upM_zero.symm.trans (upM_done HE.out))⟩
        case measure => simp [intOf]; omega
      · have HSD := Lib.hid (HV5.out.drop (k + 1) (by omega))
        obtain ⟨nt, hnt⟩ : ∃ n, xs.length - (k + 1) = n := ⟨_, rfl⟩
        have HNT : Hid (k + 1 + nt = xs.length) := by show _ = _; omega
        have hnt2 : nt ≤ 66 := by omega
        rw [hnt] at HSD ⊢
        have HM0 : Hid (nt = xs.length - (k + 1)) := hnt.symm
        clear hnt h
        go_loopw [8, 44] (fun v i wr => ∃ (j : Nat) (l : List Rct), j ≤ nt ∧ i = .int .i64 j ∧ Hid (Below w5.heap.size w5 wr) ∧ Hid (OwnRc wr w5.heap.size v l) ∧ Hid (l.length ≤ k * 2700 + j * 40) ∧ Hid (∀ r, r ∈ l ↔ UpM L W tk xs k j r)) (fun _ i _ => nt - (intOf i).toNat)
        case atStart => exact ⟨0, l, Nat.zero_le _, rfl, hb, ho, Nat.le_trans HLQ.out (Nat.le_add_right _ _), fun r => (hm.out r).trans upM_zero.symm⟩
        case round =>
          clear hb ho hl hm
          obtain ⟨j, l2, hj, rfl, hb, ho, hl, hm⟩ := hrel
          by_cases hlj : j < nt
          · have i2 : (j : Int) < nt := by omega
            obtain ⟨ya, yc, e, y1, y2, q⟩ := HSD.out
            simp only [Value.slice.injEq] at e
            obtain ⟨rfl, y3, rfl⟩ := e
            clear y1 y2 y3
            obtain ⟨pb', po', e, hc⟩ := q j (by rw [List.length_drop]; have := HNT.out; omega)
            cases e
            have c0 := cell_keep hb.out hc
            dsimp only at c0
            rw [gi_drop] at c0
            clear hc q
            have HUN1 := Lib.hid (HG.out (k + 1 + j) (by have := HNT.out; omega))
            have HUN0 := Lib.hid (HG.out k hlt)
            obtain ⟨un, hun⟩ : ∃ x, Hid (gi xs (k + 1 + j) = x) := ⟨_, rfl⟩
            rw [hun.out] at c0 HUN1
            rw [hfr.out] at HUN0
            have HPr := Lib.hid (HP5.out.keep hb.out)
            go_upto_region 11 with fail
            clear c0
            refine wp_region_ep 3 gmT gmT_ok [⟨bp, 0, (#[.int .i64 L, .int .i64 W, .slice ta tk.length tc] : Array Value).toList⟩] (fun v => v = wr) [(9, 0)] [] [(48, .agg #[.int .i64 L, .int .i64 W, .slice ta tk.length tc]), (49, .int .i64 fr), (50, .int .i64 un)] (by kernel_rfl) rfl
              (obsC (fun u hu => by cases hu; exact range_new HPr.out) obsN) ⟨rfl, trivial⟩ ?_
            conv => whnf
            refine And.intro (Nat.le_of_ble_eq_true rfl) ?_
            conv => whnf
            intro f5
            conv => whnf
            refine And.intro (rfl) ?_
            conv => whnf
            refine And.intro (rfl) ?_
            conv => whnf
            refine And.intro (rfl) ?_
            conv => whnf
            intro _ he
            cases he
            change wpList Tryz.prog _ _ [_, _, _] _ _
            go_wp2_with fail
            refine (eColumns_any L W fr un _ tk wr (HS5.out.keep hb.out) HP.out.w0 HP.out.w1 HTK.out HTN.out).mono ?_
            rintro e w6 ⟨v6, cs, rfl, ho6, hm6, hl6, hb6⟩
            have HM6 := Lib.hid hm6
            have HB6 := Lib.hid (ext_trans hb.out hb6)
            have HO6 := Lib.hid (ho.out.below hb6)
            have HC6 := Lib.hid (ho6.mono hb.out.size)
            have HNE : Hid (v6.ownBlock = none ∨ v6.ownBlock ≠ u8.ownBlock) := by
              cases e : v6.ownBlock with
              | none => exact .inl rfl
              | some r =>
                  refine .inr fun e2 => ?_
                  have h1 := (OwnRc.lt ho6 r e).1
                  have h2 := (OwnRc.lt ho.out r e2.symm).2
                  omega
            have HV6 : Hid (∀ q, v6.ownBlock = some q → q < w6.heap.size) := fun q hq => (OwnRc.lt ho6 q hq).2
            have HLC : Hid (l2.length ≤ k * 2700 + j * 40) := hl
            have HMC := Lib.hid hm.out
            have hcl : cs.length ≤ 40 := hl6
            have HOS := ho6.s
            clear hm6 hl6 hb6 ho6 hb ho hl hm HPr
            obtain ⟨ca, cc, rfl, _, _, _⟩ := HOS
            go_wp2_with fail
            go_loopw [8, 53] (fun v i wr => ∃ (n : Nat) (l : List Rct), n ≤ cs.length ∧ i = .int .i64 n ∧ Hid (Below w5.heap.size w5 wr) ∧ Hid (OwnRc wr w5.heap.size v l) ∧ Hid (OwnRc wr w5.heap.size (.slice ca cs.length cc) cs) ∧ Hid ((Value.slice ca cs.length cc).ownBlock = none ∨ (Value.slice ca cs.length cc).ownBlock ≠ v.ownBlock) ∧ Hid (w6.heap.size ≤ wr.heap.size) ∧ Hid (l.length ≤ k * 2700 + j * 40 + n) ∧ Hid (∀ r, r ∈ l ↔ UpI L W tk xs k j cs n r)) (fun _ i _ => cs.length - (intOf i).toNat)
            case atStart => exact ⟨0, l2, Nat.zero_le _, rfl, HB6, HO6, HC6, HNE, Nat.le_refl _, HLC, fun r => (HMC.out r).trans upI_zero.symm⟩
            case round =>
              clear HB6 HO6 HC6 HNE HLC HMC
              obtain ⟨n, l3, hn, rfl, hb, ho, hc6, hne6, hsz, hl, hm⟩ := hrel
              by_cases hln : n < cs.length
              · have i3 : (n : Int) < cs.length := by omega
                obtain ⟨za, zc, e, _, _, q⟩ := hc6.out.s
                simp only [Value.slice.injEq] at e
                obtain ⟨rfl, _, rfl⟩ := e
                obtain ⟨pb6, po6, rfl, hc⟩ := q n hln
                have HC := Lib.hid hc
                have HSMR := Lib.hid (((HM6.out _).1 (rci_mem hln)).sm HUN0.out HUN1.out (show W ≤ 40000 by have := HP.out.w1; omega))
                have HLR : Hid (l3.length ≤ 181000) := by have := hl.out; show _ ≤ _; omega
                have HSTP : Hid (∀ r, UpI L W tk xs k j cs (n + 1) r ↔ UpI L W tk xs k j cs n r ∨ (r = rci cs n ∧ WidR L tk r)) := fun r => upI_step
                clear hc q
                obtain ⟨⟨x0, y0, x1, y1⟩, he⟩ : ∃ t, rci cs n = t := ⟨_, rfl⟩
                rw [he] at HC HSMR HSTP
                clear he
                have hsm := HSMR.out
                unfold SmRc at hsm
                dsimp only at hsm
                have wx0 : IntKind.i64.wrap (x0 - 1) = x0 - 1 := IntWalk.i64_in _ (by omega)
                have wx1 : IntKind.i64.wrap (x1 + 1) = x1 + 1 := IntWalk.i64_in _ (by omega)
                clear hsm
                go_upto_region 13 with fail
                refine wp_region_en 2 gmT gmT_ok [⟨pb6, po6 + n * 4, rcCells ⟨x0, y0, x1, y1⟩⟩] (fun v => v = wr) [] [(55, .ix n 0)] [(56, .agg (rcA ⟨x0, y0, x1, y1⟩))] 16 56 39 (#[.int .i64 0, .int .i64 0, .int .i64 0, .int .i64 0]) (rcA ⟨x0, y0, x1, y1⟩) (by kernel_rfl) rfl ⟨_, _, rfl, ⟨rfl, rfl, rfl⟩, rfl, rfl, rfl⟩ (by decide) alloc_Rect (by kernel_rfl) rfl (rc_one _)
                  (obsC (fun u hu => by cases hu; exact (rc_range HC.out)) obsN) trivial ?_
                conv => whnf
                refine And.intro (under_of ⟨rfl, hln, rfl, rfl⟩) ?_
                conv => whnf
                refine And.intro (Nat.le_of_ble_eq_true rfl) ?_
                conv => whnf
                intro f6
                conv => whnf
                refine And.intro (rfl) ?_
                conv => whnf
                refine And.intro ⟨rfl, rfl⟩ ?_
                intro w2 h2
                conv => whnf
                cases h2
                obtain ⟨W7, HT7, HB7', HW7⟩ := newObj wr (rcA ⟨x0, y0, x1, y1⟩) 39
                obtain ⟨bq, hbq⟩ : ∃ b, wr.heap.size = b := ⟨_, rfl⟩
                rw [hbq] at HT7
                rw [HW7.out, hbq]
                have HB7 := Lib.hid (ext_trans hb.out HB7'.out)
                have HO7 := Lib.hid (ho.out.below HB7'.out)
                have HC7 := Lib.hid (hc6.out.below HB7'.out)
                have HSZ7 : Hid (w6.heap.size ≤ W7.heap.size) := Nat.le_trans hsz.out HB7'.out.size
                have HP7 := Lib.hid (HP5.out.keep HB7.out)
                have HNE7 := Lib.hid hne6.out
                have HLL : Hid (l3.length ≤ k * 2700 + j * 40 + n) := hl
                have HMM := Lib.hid hm.out
                clear HW7 HB7' hb ho hc6 hsz hne6 hbq HC hl hm
                go_upto_region 14 with fail
                refine wp_region_nd gmT gmT_ok [⟨bq, 0, (rcA ⟨x0, y0, x1, y1⟩).toList⟩] [(16, 0)] [] [] [⟨2, 4, 17, 57, 39, #[.int .i64 0, .int .i64 0, .int .i64 0, .int .i64 0], rcA ⟨x0, y0, x1, y1⟩⟩, ⟨3, 5, 18, 58, 39, #[.int .i64 0, .int .i64 0, .int .i64 0, .int .i64 0], rcA ⟨x0, y0, x1, y1⟩⟩]
                  (by kernel_rfl) mixed (by kernel_rfl) (by show ([2, 4, 3, 5] : List Nat).Nodup; decide) ?_ (obsC (fun u hu => rangeKeep (range_new HT7.out) hu) obsN) ⟨rfl, trivial⟩ ?_
                · exact List.forall_mem_cons.2 ⟨⟨⟨_, rfl, rfl, rfl⟩, ⟨_, rfl, rfl, rfl, ⟨2, .data⟩, by simp, rfl, rfl⟩, alloc_Rect, by kernel_rfl, rfl, rc_one _⟩, List.forall_mem_cons.2 ⟨⟨⟨_, rfl, rfl, rfl⟩, ⟨_, rfl, rfl, rfl, ⟨3, .data⟩, by simp, rfl, rfl⟩, alloc_Rect, by kernel_rfl, rfl, rc_one _⟩, fun p hp => by cases hp⟩⟩
                conv => whnf
                refine And.intro (Nat.le_of_ble_eq_true rfl) ?_
                conv => whnf
                refine And.intro (Nat.le_of_ble_eq_true rfl) ?_
                conv => whnf
                refine And.intro ⟨rfl, rfl, trivial⟩ ?_
                intro f7
                conv => whnf
                intro w8 h8 hnw8 hdw8
                obtain ⟨b17, e17, g17, o17⟩ := hnw8 _ (.head _)
                obtain ⟨b18, e18, g18, o18⟩ := hnw8 _ (.tail _ (.head _))
                have hne := hdw8 _ (.head _) _ (.tail _ (.head _)) (show (2 : Nat) ≠ 3 by decide) _ _ e17 e18
                dsimp only at e17
                rw [e17]
                dsimp only at e18
                rw [e18]
                clear hnw8 e17 e18 hdw8
                have HN17 : Hid (b17 ≠ b18) := hne
                have HN18 : Hid (b18 ≠ b17) := fun e => hne e.symm
                have HG17 : Hid (W7.heap.size ≤ b17) := g17
                have HG18 : Hid (W7.heap.size ≤ b18) := g18
                have HA8 : Hid (ObjAt w8 b17 (rcA ⟨x0, y0, x1, y1⟩) 39) := o17
                have HE8 : Hid (ObjAt w8 b18 (rcA ⟨x0, y0, x1, y1⟩) 39) := o18
                have HB8 : Hid (Below W7.heap.size W7 w8) := h8
                clear hne g17 g18 o17 o18 h8
                have r0 := HA8.out.cell 0
                have f0 := HA8.out.frozen 0
                simp only [rcA] at r0
                dsimp at r0
                obtain ⟨W9, HW9⟩ : ∃ W9, Hid (w8.setCell ⟨b17, 0, none⟩ (.int .i64 (x0 - 1)) = W9) := ⟨_, rfl⟩
                have HA9 : Hid (ObjAt W9 b17 (rcA ⟨x0 - 1, y0, x1, y1⟩) 39) := by show ObjAt ..; rw [← HW9.out]; exact HA8.out.set 0 _
                have HE9 : Hid (ObjAt W9 b18 (rcA ⟨x0, y0, x1, y1⟩) 39) := by show ObjAt ..; rw [← HW9.out]; exact HE8.out.other HN18.out 0 _
                have HB9 : Hid (Below W7.heap.size W7 W9) := by show Below ..; rw [← HW9.out]; exact HB8.out.setCell (p := ⟨b17, 0, none⟩) HG17.out _
                go_upto_region 16 with fail
                rw [HW9.out]
                clear r0 f0 wx0 HW9 HA8 HE8 HB8
                have r2 := HE9.out.cell 2
                have f2 := HE9.out.frozen 2
                simp only [rcA] at r2
                dsimp at r2
                obtain ⟨WA, HWA⟩ : ∃ WA, Hid (W9.setCell ⟨b18, 2, none⟩ (.int .i64 (x1 + 1)) = WA) := ⟨_, rfl⟩
                have HAA : Hid (ObjAt WA b17 (rcA ⟨x0 - 1, y0, x1, y1⟩) 39) := by show ObjAt ..; rw [← HWA.out]; exact HA9.out.other HN17.out 2 _
                have HEA : Hid (ObjAt WA b18 (rcA ⟨x0, y0, x1 + 1, y1⟩) 39) := by show ObjAt ..; rw [← HWA.out]; exact HE9.out.set 2 _
                have HBA' : Hid (Below W7.heap.size W7 WA) := by show Below ..; rw [← HWA.out]; exact HB9.out.setCell (p := ⟨b18, 2, none⟩) HG18.out _
                go_upto_region 17 with fail
                rw [HWA.out]
                clear r2 f2 wx1 HWA HA9 HE9 HB9 HN17 HN18 HG17 HG18
                have HBA := Lib.hid (ext_trans HB7.out HBA'.out)
                have HOA := Lib.hid (HO7.out.below HBA'.out)
                have HCA := Lib.hid (HC7.out.below HBA'.out)
                have HPA := Lib.hid (HP7.out.keep HBA'.out)
                have HTA := Lib.hid (HT7.out.keep HBA'.out)
                have HSZA : Hid (w6.heap.size ≤ WA.heap.size) := Nat.le_trans HSZ7.out HBA'.out.size
                have HSA := Lib.hid (HS5.out.keep HBA.out)
                clear HBA' HB7 HO7 HC7 HP7 HT7 HSZ7
                refine wp_region_et gmT3 gmT3_ok [⟨bp, 0, (#[.int .i64 L, .int .i64 W, .slice ta tk.length tc] : Array Value).toList⟩, ⟨b17, 0, (rcA ⟨x0 - 1, y0, x1, y1⟩).toList⟩, ⟨b18, 0, (rcA ⟨x0, y0, x1 + 1, y1⟩).toList⟩] (Below WA.heap.size WA) [(9, 0), (17, 1), (18, 2)] [(73, .ret (.bool (freeB L tk ⟨x0 - 1, y0, x1, y1⟩))), (78, .ret (.bool (freeB L tk ⟨x0, y0, x1 + 1, y1⟩)))] [(80, .bool ((!freeB L tk ⟨x0 - 1, y0, x1, y1⟩) && (!freeB L tk ⟨x0, y0, x1 + 1, y1⟩)))] (by kernel_rfl) (Below.refl _ _)
                  (obsC (fun u hu => rangeKeep (range_new HPA.out) hu) (obsC (fun u hu => rangeKeep (range_new HAA.out) hu) (obsC (fun u hu => rangeKeep (range_new HEA.out) hu) obsN))) ⟨rfl, rfl, rfl, trivial⟩ ?_
                conv => whnf
                refine And.intro (Nat.le_of_ble_eq_true rfl) ?_
                conv => whnf
                refine And.intro (Nat.le_of_ble_eq_true rfl) ?_
                conv => whnf
                refine And.intro (under_of fun u hu => ret_in (eFree_any L W _ tk ⟨x0 - 1, y0, x1, y1⟩ u (HSA.out.keep hu)) hu) ?_
                conv => whnf
                refine And.intro (Nat.le_of_ble_eq_true rfl) ?_
                conv => whnf
                refine And.intro (Nat.le_of_ble_eq_true rfl) ?_
                conv => whnf
                refine And.intro (under_of fun u hu => ret_in (eFree_any L W _ tk ⟨x0, y0, x1 + 1, y1⟩ u (HSA.out.keep hu)) hu) ?_
                conv => whnf
                intro f8
                conv => whnf
                refine And.intro (rfl) ?_
                conv => whnf
                intro wB hB
                have HBB := Lib.hid (ext_trans HBA.out hB)
                have HOB := Lib.hid (HOA.out.below hB)
                have HCB := Lib.hid (HCA.out.below hB)
                have HTB := Lib.hid (HTA.out.keep hB)
                have HSZB : Hid (w6.heap.size ≤ wB.heap.size) := Nat.le_trans HSZA.out hB.size
                clear hB HBA HOA HCA HPA HTA HSZA HSA HAA HEA
                have HZW : Hid (WidR L tk ⟨x0, y0, x1, y1⟩ ↔ ((!freeB L tk ⟨x0 - 1, y0, x1, y1⟩) && (!freeB L tk ⟨x0, y0, x1 + 1, y1⟩)) = true) := by
                  show _ ↔ _
                  unfold WidR
                  simp only [Bool.and_eq_true, Bool.not_eq_true']
                obtain ⟨z, hz⟩ : ∃ z, ((!freeB L tk ⟨x0 - 1, y0, x1, y1⟩) && (!freeB L tk ⟨x0, y0, x1 + 1, y1⟩)) = z := ⟨_, rfl⟩
                rw [hz] at HZW ⊢
                clear hz
                cases z
                · have HM2 : Hid (∀ r, r ∈ l3 ↔ UpI L W tk xs k j cs (n + 1) r) := fun r => (HMM.out r).trans ⟨fun h => (HSTP.out r).2 (.inl h), fun h => by
                    rcases (HSTP.out r).1 h with h | ⟨rfl, h⟩
                    · exact h
                    · exact absurd (HZW.out.1 h) (by decide)⟩
                  clear HZW HSTP HMM HTB
                  go_wp2_with fail
                  go_roundw
                  case rel => exact ⟨n + 1, l3, by omega, by go_num, HBB, HOB, HCB, HNE7, HSZB, Nat.le_trans HLL.out (by omega), HM2⟩
                  case measure => simp [intOf]; omega
                · have HM2 : Hid (∀ r, r ∈ l3 ++ [⟨x0, y0, x1, y1⟩] ↔ UpI L W tk xs k j cs (n + 1) r) := fun r => by
                    rw [List.mem_append, List.mem_singleton, HSTP.out r, HMM.out r]
                    constructor
                    · rintro (h | h)
                      · exact .inl h
                      · exact .inr ⟨h, by rw [h]; exact HZW.out.2 rfl⟩
                    · rintro (h | ⟨h, _⟩)
                      · exact .inl h
                      · exact .inr h
                  have r0 := HTB.out.cell 0
                  have r1 := HTB.out.cell 1
                  have r2 := HTB.out.cell 2
                  have r3 := HTB.out.cell 3
                  simp only [rcA] at r0 r1 r2 r3
                  dsimp at r0 r1 r2 r3
                  obtain ⟨WC, HNC, HBC, HWC⟩ := newObj wB (rcA ⟨x0, y0, x1, y1⟩) 39
                  go_wp2_with (at_builtin; rw [show wB.alloc (.cells #[.int .i64 x0, .int .i64 y0, .int .i64 x1, .int .i64 y1] 39) = WC from HWC.out]; refine wpList_app_Rc rfl (.tmp 81) (.tmp 83) rfl w5.heap.size u8 l3 [⟨x0, y0, x1, y1⟩] rfl (HOB.out.below HBC.out) ⟨wB.heap.size, 0, none⟩ 1 1 rfl (sRc_one (rcC HNC.out)) (by have := HLR.out; simp; omega) (Nat.le_trans HBB.out.size HBC.out.size) ?_)
                  intro vD wD hoD hgD haD
                  have HOD := Lib.hid hoD
                  have hltD : ∀ r, u8.ownBlock = some r → w5.heap.size ≤ r := fun r hr => (OwnRc.lt HOB.out r hr).1
                  have HBD := Lib.hid ((ext_trans HBB.out HBC.out).grown hgD (ext_trans HBB.out HBC.out).size hltD)
                  have HCD : Hid (OwnRc wD w5.heap.size (.slice (some ⟨pb6, po6, none⟩) cs.length cc) cs) := World.ownsRow.kept (HCB.out.below HBC.out) hgD HNE7.out
                  have HNED : Hid ((Value.slice (some ⟨pb6, po6, none⟩) cs.length cc).ownBlock = none ∨ (Value.slice (some ⟨pb6, po6, none⟩) cs.length cc).ownBlock ≠ vD.ownBlock) := by
                    rcases HNE7.out with e | e
                    · exact .inl e
                    · refine .inr fun e2 => ?_
                      rcases haD with e3 | e3
                      · exact e (e2.trans e3)
                      · have := HV6.out _ (e2.trans e3)
                        have h1 := HSZB.out
                        have h2 := HBC.out.size
                        omega
                  have HSZD : Hid (w6.heap.size ≤ wD.heap.size) := Nat.le_trans (Nat.le_trans HSZB.out HBC.out.size) hgD.size
                  have HLD : Hid ((l3 ++ [(⟨x0, y0, x1, y1⟩ : Rct)]).length ≤ k * 2700 + j * 40 + (n + 1)) := by show _ ≤ _; have := HLL.out; rw [List.length_append, List.length_singleton]; omega
                  clear hoD hgD haD hltD HWC HNC HBC HOB HCB HBB r0 r1 r2 r3 HTB HNE7 HSZB
                  go_wp2_with fail
                  go_roundw
                  case rel => exact ⟨n + 1, _, by omega, by go_num, HBD, HOD, HCD, HNED, HSZD, HLD, HM2⟩
                  case measure => simp [intOf]; omega
              · have i3 : ¬ (n : Int) < cs.length := by omega
                have e : n = cs.length := by omega
                have HM2 : Hid (∀ r, r ∈ l3 ↔ UpM L W tk xs k (j + 1) r) := fun r => by rw [hm.out r, e]; exact upI_done (by rw [hfr.out, hun.out]; exact HM6.out)
                have HL2 : Hid (l3.length ≤ k * 2700 + (j + 1) * 40) := by show _ ≤ _; have := hl.out; omega
                clear e
                go_wp2_with fail
                go_roundw
                case rel => exact ⟨j + 1, l3, by omega, by go_num, hb, ho, HL2, HM2⟩
                case measure => simp [intOf]; omega
          · have i2 : ¬ (j : Int) < nt := by omega
            have e : j = nt := by omega
            have HM2 : Hid (∀ r, r ∈ l2 ↔ UpO L W tk xs (k + 1) r) := fun r => by rw [hm.out r, e]; exact upM_done HM0.out
            have HL2 : Hid (l2.length ≤ (k + 1) * 2700) := by show _ ≤ _; have := hl.out; omega
            clear e
            go_wp2_with fail
            go_roundw
            case rel => exact ⟨k + 1, l2, by omega, by go_num, hb, ho, HL2, HM2⟩
            case measure => simp [intOf]; omega
    · have i1 : ¬ (k : Int) < xs.length := by omega
      have e : k = xs.length := by omega
      have HM2 : Hid (∀ r, r ∈ l ↔ FreS L W tk r) := fun r => by rw [hm.out r, e]; exact upO_fre HX5.out
      have HL2 : Hid (l.length ≤ 1000000) := by show _ ≤ _; have := hl.out; omega
      have HSM : Hid (∀ r ∈ l, SmRc r) := fun r hr => by
        obtain ⟨i, j, _, h2, h3, h4, _⟩ := (hm.out r).1 hr
        exact h4.sm (HG.out i (by omega)) (HG.out j h3) (by have := HP.out.w1; omega)
      clear e hm hl
      go_wp2_with fail
      refine (sortRc_any _ wr w5.heap.size l ho.out HSM.out HL2.out).mono ?_
      rintro e w8 ⟨rfl, hg8, l8, hp8, hs8⟩
      have HB8 := Lib.hid (hb.out.grown hg8 hb.out.size (fun r hr => (OwnRc.lt ho.out r hr).1))
      clear hg8
      go_wp2_with fail
      go_ret
      exact ⟨_, l8, rfl, hs8, fun r => by rw [HTE.out]; exact hp8.mem_iff.trans (HM2.out r), by rw [hp8.length_eq]; exact HL2.out, ext_trans HB5.out HB8.out⟩
end Go.Proofs.YtfmhickjefogdaaGreat

/- Regions that draw their order, in which a new slice of known integers goes to a call whose value is known, and is assigned. -/
namespace Go.Proofs.YtfmhickjefogdaaGreat
open Go.RowKit

structure JLi (A C D : Nat) (V : Value → World → Prop) (R : Value) (s : Nat → Option Value) (u : World) : Prop where
  ac : s A = none → s C = none
  cd : s C = none → s D = none
  a : ∀ v, s A = some v → V v u
  c : ∀ v, s C = some v → v = R
  d : ∀ v, s D = some v → v = R
section
variable {a0 : Act} {ps : List (Nat × Nat)} {T : QTab} {E : List Ob} {hs : List (Nat × Hint)}
def evLi (a0 : Act) (E : List Ob) (W : World) (A C D nD : Nat) (ns : List Nat) (vs : List Value) (R : Value) (outs : List (Nat × Value)) (Q : Act → World → Prop) (ops : List Oper) (S : List Ent) : Prop :=
  argsAt E S ns vs ∧ ∀ (f : Nat → Value), match a0 with
    | ⟨⟨l⟩, d⟩ => finS E outs f S l fun l' => setsN f (spD [A, C, D] 0 ops) l' fun l'' => f nD = R → ∀ w', Below W.heap.size W w' → Q ⟨l''.toArray, d⟩ w'
theorem wp_region_li {id : Nat} {Q : Exit → Act → World → Prop} {w : World} {ops : List Oper} (T : QTab) (hT : T.Ok) (E : List Ob) (ps : List (Nat × Nat)) (hs : List (Nat × Hint)) (outs : List (Nat × Value))
    (A C D nA nC nD : Nat) (F : FuncId) (ns : List Nat) (vs : List Value) (V : Value → World → Prop) (R : Value)
    (hz : (ops.all fun o => match o.dst with | some n => decide (n < a0.tmps.size) | none => true) = true) (hm : Tryz.prog.follows .mixedOrders = true)
    (hst : (ordB ops.toArray && nodB (dstsL ops) && chkB ops.toArray (quietL [A, C, D] 0 ops) && depB [A, C, D] ops.toArray) = true)
    (hne : A ≠ C ∧ A ≠ D ∧ C ≠ D)
    (hA : ∃ o, ops[A]? = some o ∧ o.dst = some nA ∧ (∀ n ∈ ns, n ∈ o.looksAt ops.toArray) ∧ ∀ (a : Act) (u : World) (K : Act → World → Prop), (ns.map Operand.tmp).map a.eval = vs → (∀ x u', V x u' → Below u.heap.size u u' → K (a.put o.dst x) u') → o.wp Tryz.prog a u K Q)
    (hC : ∃ o c, ops[C]? = some o ∧ o.op = .call c ∧ c.callee = .value (.func F) ∧ c.args.toList = [.tmp nA] ∧ o.dst = some nC ∧ ∃ e ∈ o.after, e.on = A ∧ Region.binds .any e = true)
    (hD : ∃ o, ops[D]? = some o ∧ o.op = .assign (.tmp nC) ∧ o.dst = some nD ∧ ∃ e ∈ o.after, e.on = C ∧ Region.binds .any e = true)
    (hen : ∀ args w, (callFunc F args).run Tryz.prog w = .ok (.enter F args) w)
    (hV : ∀ x u u', V x u → Below u.heap.size u u' → V x u')
    (hcall : ∀ x u, V x u → Calls Tryz.prog F #[x] u fun e u' => e = .returned R ∧ Below u.heap.size u u')
    (hE : ObsIn (Below w.heap.size w) E) (P : psOk a0 E ps)
    (h : evL a0 ps T E (Below w.heap.size w) (fun u u' => Below u.heap.size u u') hs ops (evLi a0 E w A C D nD ns vs R outs (Q .normal) ops) (quietL [A, C, D] 0 ops) []) : (Code.region id ops.toArray true).wp Tryz.prog Q a0 w := by
  obtain ⟨oA, hA1, hA3, hA4, hA5⟩ := hA
  obtain ⟨oC, cC, hC1, hC2, hC2b, hC2c, hC3, eC, hC4, hC5, hC6⟩ := hC
  obtain ⟨oD, hD1, hD2, hD3, eD, hD4, hD5, hD6⟩ := hD
  obtain ⟨nAC, nAD, nCD⟩ := hne
  have hst' := hst
  simp only [Bool.and_eq_true] at hst'
  obtain ⟨⟨⟨s1, s2⟩, s3⟩, s4⟩ := hst'
  have hsub : ∀ o ∈ quietL [A, C, D] 0 ops, o ∈ ops := fun o ho => by obtain ⟨k, hk, _⟩ := mem_quietL ho; exact List.mem_of_getElem? hk
  obtain ⟨S, H, af, I, ⟨g1, h2⟩, f1, f2, f3⟩ := evL_fin P hT hE hz _ [] [] a0 hsub s3 InvQ.start h
  refine mix_core [A, C, D] E (Below w.heap.size w) (fun u u' => Below u.heap.size u u') outs (JLi A C D V R) hz hm hst ((Below.refl _ _).drew) ⟨fun _ => rfl, fun _ => rfl, fun v hv => (by cases hv), fun v hv => (by cases hv), fun v hv => (by cases hv)⟩ (fun u u' h1 h2 => h1.trans (h2.mono h1.size)) (fun u _ => Below.refl _ _)
    (fun s u u' _ hj hb => ⟨hj.ac, hj.cd, fun v hv => hV _ _ _ (hj.a v hv) hb, hj.c, hj.d⟩) I ⟨⟨?_, ?_, ?_, trivial⟩, fun f s hsv => ?_⟩ f1 f2 f3
  · intro o a u s ho hCu hJ hn hq' hold hdep K hK
    rw [hA1] at ho; cases ho
    have hx := argsAt_map (a := a) g1 fun n hn' => hq' n (hA4 n hn')
    have hsC := hJ.ac hn
    have hsD := hJ.cd hsC
    refine hA5 a u K hx fun x u' hv hb => hK _ _ (hCu.trans (hb.mono hCu.size)) ⟨fun h => (by rw [updS_same] at h; cases h), fun _ => ?_, fun v' hv' => ?_, fun v' hv' => ?_, fun v' hv' => ?_⟩
    · rw [updS_other (Ne.symm nAD)]; exact hsD
    · rw [updS_same] at hv'; cases hv'; exact hv
    · rw [updS_other (Ne.symm nAC), hsC] at hv'; cases hv'
    · rw [updS_other (Ne.symm nAD), hsD] at hv'; cases hv'
  · intro o a u s ho hCu hJ hn hq' hold hdep K hK
    rw [hC1] at ho; cases ho
    obtain ⟨x, v1, v2⟩ := hdep eC hC4 hC6 (by rw [hC5]; simp)
    rw [hC5] at v1 v2
    have hx : cC.args.toList.map a.eval = [x] := by rw [hC2c]; simp [v2 oA nA hA1 hA3]
    have hsD := hJ.cd hn
    refine wp_of_enter (enters_call hC2 hC2b hx hen u) ((hcall x u (hJ.a x v1)).mono fun e u' ⟨he, hb⟩ => ⟨R, he, ?_⟩)
    refine hK _ _ (hCu.trans (hb.mono hCu.size)) ⟨fun h => ?_, fun h => (by rw [updS_same] at h; cases h), fun v' hv' => ?_, fun v' hv' => ?_, fun v' hv' => ?_⟩
    · rw [updS_other nAC, v1] at h; cases h
    · rw [updS_other nAC] at hv'; exact hV _ _ _ (hJ.a v' hv') hb
    · rw [updS_same] at hv'; cases hv'; rfl
    · rw [updS_other (Ne.symm nCD), hsD] at hv'; cases hv'
  · intro o a u s ho hCu hJ hn hq' hold hdep K hK
    rw [hD1] at ho; cases ho
    obtain ⟨x, v1, v2⟩ := hdep eD hD4 hD6 (by rw [hD5]; simp)
    rw [hD5] at v1 v2
    have hx : a.eval (.tmp nC) = R := (v2 oC nC hC1 hC3).trans (hJ.c x v1)
    refine wp_of_run (v := R) (w' := u) (by unfold execOp; simp only [hD2, hx]; rfl) (hK _ _ hCu ⟨fun h => ?_, fun h => ?_, fun v' hv' => ?_, fun v' hv' => ?_, fun v' hv' => ?_⟩)
    · rw [updS_other nAD] at h; rw [updS_other nCD]; exact hJ.ac h
    · rw [updS_other nCD, v1] at h; cases h
    · rw [updS_other nAD] at hv'; exact hJ.a v' hv'
    · rw [updS_other nCD] at hv'; exact hJ.c v' hv'
    · rw [updS_same] at hv'; cases hv'; rfl
  · obtain ⟨vD, d1, d2⟩ := hsv D (by simp) oD hD1
    obtain ⟨⟨l⟩, d⟩ := a0
    dsimp only at h2 ⊢
    refine finS_mono (fun l' hl' => ?_) (h2 f)
    rw [setsN_eq] at hl' ⊢
    intro w' hC' hJ
    exact hl' ((d2 nD hD3).symm.trans (hJ.d vD d1)) w' hC'
end
end Go.Proofs.YtfmhickjefogdaaGreat

/- remnant's comparison of Largest (printed by wip/gen_reg.py). -/
namespace Go.Proofs.YtfmhickjefogdaaGreat
open Go.RowKit

def arR (r : Rct) : Int := (r.x1 - r.x0) * (r.y1 - r.y0)
def gwrap (r : Rct) : Int := IntKind.i64.wrap (IntKind.i64.wrap (r.x1 - r.x0) * IntKind.i64.wrap (r.y1 - r.y0))
def lgO (a b : Rct) : Int := orL [IntKind.i64.wrap (gwrap b - gwrap a), IntKind.i64.wrap (a.y0 - b.y0), IntKind.i64.wrap (a.x0 - b.x0), IntKind.i64.wrap (b.x1 - a.x1)]
theorem SI_keep4 {v : Value} {xs : List Int} {u u' : World} (h : SI u v xs) (hb : Below u.heap.size u u') : SI u' v xs := h.keep hb
theorem run_lit4 {o : Oper} {a : Act} {n1 n2 n3 n4 : Nat} {x1 x2 x3 x4 : Int} (ho : o.op = .buildSlice 93 4 #[(0, .tmp n1), (1, .tmp n2), (2, .tmp n3), (3, .tmp n4)]) (h1 : a.eval (.tmp n1) = .int .i64 x1) (h2 : a.eval (.tmp n2) = .int .i64 x2) (h3 : a.eval (.tmp n3) = .int .i64 x3) (h4 : a.eval (.tmp n4) = .int .i64 x4) (w : World) : (execOp a.eval o).run Tryz.prog w = .ok (.value (.slice (some ⟨w.heap.size, 0, none⟩) 4 4)) (w.alloc (.cells #[.int .i64 x1, .int .i64 x2, .int .i64 x3, .int .i64 x4] 3)) := by
  unfold execOp; simp only [ho, List.map_toArray, List.map_cons, List.map_nil, h1, h2, h3, h4]; go_simp
theorem wp_lit4 {o : Oper} {a : Act} {u : World} {K : Act → World → Prop} {Q : Exit → Act → World → Prop} {n1 n2 n3 n4 : Nat} {x1 x2 x3 x4 : Int} (ho : o.op = .buildSlice 93 4 #[(0, .tmp n1), (1, .tmp n2), (2, .tmp n3), (3, .tmp n4)]) (hx : ([n1, n2, n3, n4].map Operand.tmp).map a.eval = [.int .i64 x1, .int .i64 x2, .int .i64 x3, .int .i64 x4])
    (hK : ∀ x u', SI u' x [x1, x2, x3, x4] → Below u.heap.size u u' → K (a.put o.dst x) u') : o.wp Tryz.prog a u K Q := by
  simp only [List.map_cons, List.map_nil, List.cons.injEq, and_true] at hx
  obtain ⟨h1, h2, h3, h4⟩ := hx
  obtain ⟨W1, q1, _, q3, q4⟩ := four_int u x1 x2 x3 x4
  refine wp_of_run (run_lit4 ho h1 h2 h3 h4 u) ?_
  rw [q4.out]
  exact hK _ _ q1.out q3.out
set_option maxRecDepth 100000 in
set_option maxHeartbeats 1000000 in
theorem largest1_any (a b : Rct) (w : World) : Calls Tryz.prog 20 #[rcV a, rcV b] w (Ret w (.int .i64 (lgO a b))) := by
  obtain ⟨W1, HA, HBb, HB, HW⟩ := boxR2 w a b
  unfold rcV
  go_enter Tryz.func20, Tryz.ntmps20
  go_upto_region 1 with fail
  rw [HW.out]
  refine wp_region_li gmT2 gmT2_ok [⟨w.heap.size, 0, (rcA a).toList⟩, ⟨w.heap.size + 1, 0, (rcA b).toList⟩] [(2, 0), (3, 1)] [(6, .ret (.int .i64 (gwrap b))), (8, .ret (.int .i64 (gwrap a)))] [] 26 27 28 31 32 4 21 [9, 16, 23, 30] [.int .i64 (IntKind.i64.wrap (gwrap b - gwrap a)), .int .i64 (IntKind.i64.wrap (a.y0 - b.y0)), .int .i64 (IntKind.i64.wrap (a.x0 - b.x0)), .int .i64 (IntKind.i64.wrap (b.x1 - a.x1))] (fun x u => SI u x [IntKind.i64.wrap (gwrap b - gwrap a), IntKind.i64.wrap (a.y0 - b.y0), IntKind.i64.wrap (a.x0 - b.x0), IntKind.i64.wrap (b.x1 - a.x1)]) (.int .i64 (lgO a b))
    (by kernel_rfl) mixed (by kernel_rfl) (by decide)
    ⟨_, rfl, rfl, by decide, fun a u K hx hK => wp_lit4 rfl hx hK⟩ ⟨_, _, rfl, rfl, rfl, rfl, rfl, ⟨26, .data⟩, by simp, rfl, rfl⟩ ⟨_, rfl, rfl, rfl, ⟨27, .data⟩, by simp, rfl, rfl⟩
    (gmEn2_ok 21 rfl) (fun x u u' h hb => SI_keep4 h hb) (fun x u h => (or_any x _ u h).mono fun e u' ⟨he, hu'⟩ => ⟨he, by subst hu'; exact Below.refl _ _⟩) (obsC (fun u hu => rangeKeep (range_new HA.out) hu) (obsC (fun u hu => rangeKeep (range_new HBb.out) hu) obsN)) ⟨rfl, rfl, trivial⟩ ?_
  conv => whnf
  refine And.intro (Nat.le_of_ble_eq_true rfl) ?_
  conv => whnf
  refine And.intro (under_of fun u hu => eArea_any b u) ?_
  conv => whnf
  refine And.intro (Nat.le_of_ble_eq_true rfl) ?_
  conv => whnf
  refine And.intro (under_of fun u hu => eArea_any a u) ?_
  conv => whnf
  refine And.intro ⟨rfl, rfl, rfl, rfl, trivial⟩ ?_
  intro f1
  conv => whnf
  intro hfD w2 h2
  have HB2 := Lib.hid (ext_trans HB.out h2)
  clear h2
  rw [hfD]
  clear hfD
  go_wp2_with fail
  go_ret
  exact ⟨rfl, HB2.out⟩
end Go.Proofs.YtfmhickjefogdaaGreat

/- slices.MinFunc of rectangles by remnant's comparison; remnant.Largest. -/
namespace Go.Proofs.YtfmhickjefogdaaGreat
open Go.RowKit

/-- a rectangle of a plate -/
def PlR (r : Rct) : Prop := (0 ≤ r.x0 ∧ r.x0 ≤ r.x1 ∧ r.x1 ≤ 32768) ∧ 0 ≤ r.y0 ∧ r.y0 ≤ r.y1 ∧ r.y1 ≤ 32768
theorem arR_in {r : Rct} (h : PlR r) : 0 ≤ arR r ∧ arR r ≤ 1073741824 := by
  unfold PlR at h
  unfold arR
  have h1 : 0 ≤ r.x1 - r.x0 := by omega
  have h2 : 0 ≤ r.y1 - r.y0 := by omega
  refine ⟨Int.mul_nonneg h1 h2, ?_⟩
  have h3 : (r.x1 - r.x0) * (r.y1 - r.y0) ≤ 32768 * 32768 := Int.mul_le_mul (by omega) (by omega) h2 (by omega)
  omega
theorem gwrap_eq {r : Rct} (h : PlR r) : gwrap r = arR r := by
  have h1 := arR_in h
  unfold PlR at h
  unfold gwrap
  rw [IntWalk.i64_in (r.x1 - r.x0) (by omega), IntWalk.i64_in (r.y1 - r.y0) (by omega)]
  exact IntWalk.i64_in _ (by unfold arR at h1; omega)
theorem lgO_lt {a b : Rct} (ha : PlR a) (hb : PlR b) (h : lgO a b < 0) : arR b ≤ arR a := by
  have h1 := arR_in ha
  have h2 := arR_in hb
  unfold lgO at h
  rw [gwrap_eq ha, gwrap_eq hb, IntWalk.i64_in (arR b - arR a) (by omega)] at h
  simp only [orL] at h
  split at h <;> omega
theorem lgO_ge {a b : Rct} (ha : PlR a) (hb : PlR b) (h : ¬ lgO a b < 0) : arR a ≤ arR b := by
  have h1 := arR_in ha
  have h2 := arR_in hb
  unfold lgO at h
  rw [gwrap_eq ha, gwrap_eq hb, IntWalk.i64_in (arR b - arR a) (by omega)] at h
  simp only [orL] at h
  split at h <;> omega
set_option maxRecDepth 100000 in
set_option maxHeartbeats 2000000 in
theorem minRect_any (v : Value) (xs : List Rct) (w : World) (h : SRc w v xs) (hpos : 0 < xs.length) (hq : ∀ x ∈ xs, PlR x) :
    Calls Tryz.prog 19 #[v, .func (.func 20) #[] #[]] w fun e w' => ∃ m, m ∈ xs ∧ (∀ x ∈ xs, arR x ≤ arR m) ∧ e = .returned (rcV m) ∧ Below w.heap.size w w' := by
  obtain ⟨xa, xc, rfl, _, c1, q⟩ := h
  have Q := Lib.hid q
  clear q
  have HQ := Lib.hid hq
  clear hq
  have hcf : ∀ args w, (callFunc 20 args).run Tryz.prog w = .ok (.enter 20 args) w := gmEn2_ok 20 rfl
  have hm : xs.length ≤ 9223372036854775807 := by unfold maxLen at c1; omega
  have i0 : ¬ (xs.length : Int) < 1 := by omega
  have i1 : (0 : Int) < xs.length := by omega
  obtain ⟨b0, o0, ha, hc⟩ := Q.out 0 hpos
  have HA := Lib.hid ha
  rw [ha]
  clear ha
  have HM0 : Hid (rci xs 0 ∈ xs) := rci_mem hpos
  have HL0 : Hid (∀ j, j < 1 → arR (rci xs j) ≤ arR (rci xs 0)) := fun j hj => by
    have : j = 0 := by omega
    subst this; exact Int.le_refl _
  obtain ⟨r0, hr0⟩ : ∃ r, rci xs 0 = r := ⟨_, rfl⟩
  rw [hr0] at hc HM0 HL0
  clear hr0
  obtain ⟨W0, HZ0, HB0, HW0⟩ := boxW w ⟨0, 0, 0, 0⟩
  have hc' := hc.keep HB0.out
  have e0 : W0.cell? ⟨b0, o0, none⟩ = some (.int .i64 r0.x0) := by have := hc'.c0; simpa using this
  have e1 : W0.cell? ⟨b0, o0 + 1, none⟩ = some (.int .i64 r0.y0) := by have := hc'.c1; simpa using this
  have e2 : W0.cell? ⟨b0, o0 + 2, none⟩ = some (.int .i64 r0.x1) := by have := hc'.c2; simpa using this
  have e3 : W0.cell? ⟨b0, o0 + 3, none⟩ = some (.int .i64 r0.y1) := by have := hc'.c3; simpa using this
  obtain ⟨W1, HT1, HB1', HW1⟩ := newObj W0 (rcA r0) 39
  have HZ1 := Lib.hid (HZ0.out.keep HB1'.out)
  have HB1 := Lib.hid (ext_trans HB0.out HB1'.out)
  have HBQ : Hid (w.heap.size < W0.heap.size) := HZ0.out.lt
  clear hc c1 hc'
  go_enter Tryz.func19, Tryz.ntmps19
  go_upto_region 1 with fail
  rw [HW0.out]
  go_upto_region 4 with fail
  rw [show W0.alloc (.cells #[.int .i64 r0.x0, .int .i64 r0.y0, .int .i64 r0.x1, .int .i64 r0.y1] 39) = W1 from HW1.out]
  obtain ⟨bq, hbq⟩ : ∃ b, W0.heap.size = b := ⟨_, rfl⟩
  rw [hbq] at HT1 HBQ ⊢
  clear e0 e1 e2 e3 HW1 i0 hbq HW0 HB1' HZ0 HB0
  go_wp2_with fail
  go_loopw [6] (fun i wr => ∃ (k : Nat) (m : Rct), k ≤ xs.length ∧ 1 ≤ k ∧ i = .int .i64 k ∧ Hid (m ∈ xs) ∧ Hid (∀ j, j < k → arR (rci xs j) ≤ arR m) ∧ Hid (ObjAt wr w.heap.size (rcA ⟨0, 0, 0, 0⟩) 39) ∧ Hid (ObjAt wr (bq) (rcA m) 39) ∧ Hid (Below w.heap.size w wr)) (fun i _ => xs.length - (intOf i).toNat)
  case atStart => exact ⟨1, r0, by omega, Nat.le_refl _, rfl, HM0, HL0, HZ1, HT1, HB1⟩
  case round =>
    obtain ⟨k, m, hk, hk1, rfl, hmm, hl, hz, ht, hb⟩ := hrel
    by_cases hlt : k < xs.length
    · have i2 : (k : Int) < xs.length := by omega
      obtain ⟨pb, po, ha', hc⟩ := Q.out k hlt
      rw [HA.out] at ha'
      cases ha'
      have HC := Lib.hid (hc.keep hb.out)
      have HMK : Hid (rci xs k ∈ xs) := rci_mem hlt
      have HST : Hid (∀ m', arR (rci xs k) ≤ arR m' → arR m ≤ arR m' → ∀ j, j < k + 1 → arR (rci xs j) ≤ arR m') := fun m' h1 h2 j hj => by
        by_cases e : j = k
        · subst e; exact h1
        · exact Int.le_trans (hl.out j (by omega)) h2
      clear hc
      obtain ⟨x, hx⟩ : ∃ r, rci xs k = r := ⟨_, rfl⟩
      rw [hx] at HC HMK HST
      clear hx
      go_upto_region 7 with fail
      refine wp_region_ev gmT2 gmT2_ok [⟨b0, o0 + k * 4, rcCells x⟩, ⟨bq, 0, (rcA m).toList⟩] (Below wr.heap.size wr) [(5, 1)] [(23, .ix k 0), (26, .ret (.int .i64 (lgO x m)))] [(27, .bool (decide (lgO x m < 0)))] (by kernel_rfl) mixed (by kernel_rfl) ((Below.refl _ _).drew)
        (obsC (fun u hu => rangeKeep (rc_range HC.out) hu) (obsC (fun u hu => rangeKeep (range_new ht.out) hu) obsN)) ⟨rfl, trivial⟩ ?_
      conv => whnf
      refine And.intro (under_of ⟨rfl, hlt, rfl, rfl⟩) ?_
      conv => whnf
      refine And.intro (Nat.le_of_ble_eq_true rfl) ?_
      conv => whnf
      refine And.intro (Nat.le_of_ble_eq_true rfl) ?_
      conv => whnf
      refine And.intro (under_of fun u hu => ret_in (largest1_any x m u) hu) ?_
      conv => whnf
      intro f3
      conv => whnf
      refine And.intro (rfl) ?_
      conv => whnf
      intro w3 h3
      have HB3 := Lib.hid (ext_trans hb.out h3)
      have HZ3 := Lib.hid (hz.out.keep h3)
      have HT3 := Lib.hid (ht.out.keep h3)
      have HC3 := Lib.hid (HC.out.keep h3)
      clear h3 hb hz ht
      by_cases hz : lgO x m < 0
      · have HNEW := Lib.hid (HST.out x (Int.le_refl _) (lgO_lt (HQ.out _ HMK.out) (HQ.out _ hmm.out) hz))
        have e0 := HC3.out.c0
        have e1 := HC3.out.c1
        have e2 := HC3.out.c2
        have e3 := HC3.out.c3
        go_wp2_with (refine wpList_store_row (o := ⟨none, .store _ _ _, _, _, _, _⟩) rfl 39 (.tmp 5) (.tmp 31) rfl (bq) (rcA x) rfl rfl 39 _ HT3.out info_Rect rfl (rc_one _) ?_)
        have HT4 : Hid (ObjAt (w3.setRow (bq) (rcA x)) (bq) (rcA x) 39) := setRow_heap _ _ _ _ _ _ HT3.out
        have HZ4 : Hid (ObjAt (w3.setRow (bq) (rcA x)) w.heap.size (rcA ⟨0, 0, 0, 0⟩) 39) := (setRow_other _ _ _ _ (by have := HBQ.out; omega)).trans HZ3.out
        have HB4 := Lib.hid (below_setRow HB3.out (Nat.le_of_lt HBQ.out) (rcA x))
        obtain ⟨W4, hW4⟩ : ∃ W4, w3.setRow (bq) (rcA x) = W4 := ⟨_, rfl⟩
        rw [hW4] at HT4 HZ4 HB4 ⊢
        clear e0 e1 e2 e3 hW4
        go_wp2_with fail
        go_roundw
        case rel => exact ⟨k + 1, x, by omega, by omega, by go_num, HMK, HNEW, HZ4, HT4, HB4⟩
        case measure => simp [intOf]; omega
      · have HNEW := Lib.hid (HST.out m (lgO_ge (HQ.out _ HMK.out) (HQ.out _ hmm.out) hz) (Int.le_refl _))
        go_wp2_with fail
        go_roundw
        case rel => exact ⟨k + 1, m, by omega, by omega, by go_num, hmm, HNEW, HZ3, HT3, HB3⟩
        case measure => simp [intOf]; omega
    · have i2 : ¬ (k : Int) < xs.length := by omega
      have m0 := ht.out.cell 0
      have m1 := ht.out.cell 1
      have m2 := ht.out.cell 2
      have m3 := ht.out.cell 3
      simp only [rcA] at m0 m1 m2 m3
      dsimp at m0 m1 m2 m3
      go_wp2_with (refine wpList_store_row (o := ⟨none, .store _ _ _, _, _, _, _⟩) rfl 39 (.tmp 4) (.tmp 32) rfl w.heap.size (rcA m) rfl rfl 39 _ hz.out info_Rect rfl (rc_one _) ?_)
      refine bodyPost_ret (results_cell Tryz.results19 rfl (load_Rect (setRow_heap _ _ _ (rcA m) _ _ hz.out))) rfl ?_
      refine ⟨m, hmm.out, fun x hx => ?_, rfl, below_setRow hb.out (Nat.le_refl _) _⟩
      obtain ⟨j, hj, e⟩ := List.mem_iff_getElem.1 hx
      rw [← e, ← rci_lt hj]
      exact hl.out j (by omega)
end Go.Proofs.YtfmhickjefogdaaGreat

/- remnant's Largest, Taken (printed by wip/gen_rei.py). -/
namespace Go.Proofs.YtfmhickjefogdaaGreat
open Go.RowKit

theorem FreS.plR {L W : Int} {tk : List Rct} {r : Rct} (h : FreS L W tk r) (h1 : L ≤ 32768) (h2 : W ≤ 32768) : PlR r := by
  have := h.plate
  unfold PlR
  omega
/-- the largest free rectangle, or none -/
def LgR (L W : Int) (tk : List Rct) (r : Rct) (ok : Bool) : Prop := (ok = false ∧ r = ⟨0, 0, 0, 0⟩ ∧ ∀ x, ¬ FreS L W tk x) ∨ (ok = true ∧ FreS L W tk r ∧ ∀ x, FreS L W tk x → arR x ≤ arR r)
def RetLg (L W gp : Int) (ts : List Rct) (w : World) (e : Ending) (w' : World) : Prop := ∃ r ok, e = .returned (.tuple #[rcV r, .bool ok]) ∧ LgR L W (tkE gp ts) r ok ∧ Below w.heap.size w w'
set_option maxRecDepth 100000 in
set_option maxHeartbeats 2000000 in
theorem eLargest_any (L W gp : Int) (v : Value) (ts : List Rct) (w : World) (h : SRc w v ts) (hp : PlIn L W gp ts) : Calls Tryz.prog 7 #[.int .i64 L, .int .i64 W, v, .int .i64 gp] w (RetLg L W gp ts w) := by
  have HS := Lib.hid h
  have HP := Lib.hid hp
  clear h hp
  obtain ⟨W0, HZ0, HB0, HW0⟩ := boxW w ⟨0, 0, 0, 0⟩
  go_enter Tryz.func7, Tryz.ntmps7
  go_upto_region 1 with fail
  rw [HW0.out]
  clear HW0
  go_wp2_with fail
  refine (eFrees_any L W gp _ ts W0 (HS.out.keep HB0.out) HP.out).mono ?_
  rintro e w2 ⟨v2, m, rfl, hs2, hm2, hl2, hb2⟩
  have HB2 := Lib.hid (ext_trans HB0.out hb2)
  have HZ2 := Lib.hid (HZ0.out.keep hb2)
  have HS2 := Lib.hid hs2
  have HM := Lib.hid hm2
  clear hb2 hm2 hl2 HB0 HZ0
  obtain ⟨ma, mc, rfl, _⟩ := hs2
  by_cases hlen : m.length = 0
  · have hn : ((m.length : Int) == 0) = true := by rw [hlen]; rfl
    have HLG : Hid (LgR L W (tkE gp ts) ⟨0, 0, 0, 0⟩ false) := .inl ⟨rfl, rfl, fun x hx => by
      have := (HM.out x).2 hx
      rw [List.length_eq_zero_iff.1 hlen] at this
      cases this⟩
    have m0 := HZ2.out.cell 0
    have m1 := HZ2.out.cell 1
    have m2 := HZ2.out.cell 2
    have m3 := HZ2.out.cell 3
    simp only [rcA] at m0 m1 m2 m3
    dsimp at m0 m1 m2 m3
    clear hlen
    go_wp2_with (refine wpList_store_row (o := ⟨none, .store _ _ _, _, _, _, _⟩) rfl 39 (.tmp 8) (.tmp 19) rfl w.heap.size (rcA ⟨0, 0, 0, 0⟩) rfl rfl 39 _ HZ2.out info_Rect rfl (rc_one _) ?_)
    have HL := Lib.hid (load_Rect (setRow_heap _ _ _ (rcA ⟨0, 0, 0, 0⟩) _ _ HZ2.out))
    have HBE := Lib.hid (below_setRow HB2.out (Nat.le_refl _) (rcA ⟨0, 0, 0, 0⟩))
    obtain ⟨W4, hW4⟩ : ∃ W4, w2.setRow w.heap.size (rcA ⟨0, 0, 0, 0⟩) = W4 := ⟨_, rfl⟩
    rw [hW4] at HL HBE ⊢
    clear hW4 m0 m1 m2 m3
    go_wp2_with fail
    refine bodyPost_ret (results_two' Tryz.results7 rfl rfl HL.out) rfl ?_
    exact ⟨_, _, rfl, HLG.out, HBE.out⟩
  · have hn : ((m.length : Int) == 0) = false := by simpa using hlen
    have hpos : 0 < m.length := by omega
    have HPR : Hid (∀ x ∈ m, PlR x) := fun x hx => ((HM.out x).1 hx).plR HP.out.l1 HP.out.w1
    clear hlen
    go_wp2_with fail
    refine (minRect_any _ m w2 HS2.out hpos HPR.out).mono ?_
    rintro e w3 ⟨r, hr, hmax, rfl, hb3⟩
    have HB3 := Lib.hid (ext_trans HB2.out hb3)
    have HZ3 := Lib.hid (HZ2.out.keep hb3)
    have HLG : Hid (LgR L W (tkE gp ts) r true) := .inr ⟨rfl, (HM.out r).1 hr, fun x hx => hmax x ((HM.out x).2 hx)⟩
    clear hr hmax hb3
    unfold rcV
    go_wp2_with (refine wpList_store_row (o := ⟨none, .store _ _ _, _, _, _, _⟩) rfl 39 (.tmp 8) (.tmp 21) rfl w.heap.size (rcA r) rfl rfl 39 _ HZ3.out info_Rect rfl (rc_one _) ?_)
    have HL := Lib.hid (load_Rect (setRow_heap _ _ _ (rcA r) _ _ HZ3.out))
    have HBE := Lib.hid (below_setRow HB3.out (Nat.le_refl _) (rcA r))
    obtain ⟨W4, hW4⟩ : ∃ W4, w3.setRow w.heap.size (rcA r) = W4 := ⟨_, rfl⟩
    rw [hW4] at HL HBE ⊢
    clear hW4
    go_wp2_with fail
    refine bodyPost_ret (results_two' Tryz.results7 rfl rfl HL.out) rfl ?_
    exact ⟨_, _, rfl, HLG.out, HBE.out⟩
/-- the boxes of the placed parts -/
def tkB (P : List Prt) (S : List Spo) : List Rct := S.map fun x => bndL (mvO P x)
theorem tkB_len (P : List Prt) (S : List Spo) : (tkB P S).length = S.length := by unfold tkB; simp
theorem tkB_succ (P : List Prt) (S : List Spo) (k : Nat) (h : k < S.length) : tkB P (S.take (k + 1)) = tkB P (S.take k) ++ [bndL (mvO P (soi S k))] := by
  unfold tkB
  have e : S[k]?.toList = [soi S k] := by simp [h, soi]
  rw [List.take_add_one, e, List.map_append]
  rfl
theorem tkB_at {P : List Prt} {S : List Spo} {k : Nat} (h : k < S.length) : rci (tkB P S) k = bndL (mvO P (soi S k)) := by
  rw [rci_lt (by rw [tkB_len]; exact h)]
  unfold tkB
  rw [List.getElem_map]
  have : soi S k = S[k] := by simp [soi, h]
  rw [this]
def RetTk (P : List Prt) (S : List Spo) (w : World) (e : Ending) (w' : World) : Prop := ∃ v, e = .returned (.tuple #[v, .int .i64 0]) ∧ SRc w' v (tkB P S) ∧ Below w.heap.size w w'
set_option maxRecDepth 100000 in
set_option maxHeartbeats 2000000 in
theorem eTaken_any (nm : List UInt8) (gp : Int) (sv pv : Value) (S : List Spo) (P : List Prt) (L W : Int) (w : World) (hs : SSo w sv S) (hp : SPr w pv P) (ho : ∀ i, i < P.length → PrtOK w (pri P i)) (hS : S.length ≤ 32) (hP : P.length ≤ 100000) (hr : ∀ k, k < S.length → SpotR P L W gp (soi S k)) :
    Calls Tryz.prog 6 #[.agg #[.string (bs nm), .int .i64 gp, sv], pv] w (RetTk P S w) := by
  have HSS := Lib.hid hs
  have HPP := Lib.hid hp
  have HPO := Lib.hid ho
  have HRR := Lib.hid hr
  have HPL := Lib.hid hP
  obtain ⟨sa, sc, rfl, _⟩ := hs
  obtain ⟨pa, pq, rfl, _⟩ := hp
  clear ho hr hP
  obtain ⟨W1, HN1, HB1, HW1⟩ := boxN w nm gp sa S.length sc
  go_enter Tryz.func6, Tryz.ntmps6
  go_upto_region 1 with fail
  rw [HW1.out]
  clear HW1
  refine wp_region_ep 2 gmT gmT_ok [⟨w.heap.size, 0, (#[.string (bs nm), .int .i64 gp, .slice sa S.length sc] : Array Value).toList⟩] (fun v => v = W1) [(2, 0)] [] [(10, .agg #[.string (bs nm), .int .i64 gp, .slice sa S.length sc]), (11, .slice pa P.length pq)] (by kernel_rfl) rfl
    (obsC (fun u hu => by cases hu; exact range_new HN1.out) obsN) ⟨rfl, trivial⟩ ?_
  conv => whnf
  refine And.intro (Nat.le_of_ble_eq_true rfl) ?_
  conv => whnf
  intro f1
  conv => whnf
  refine And.intro (rfl) ?_
  conv => whnf
  refine And.intro (rfl) ?_
  conv => whnf
  intro _ he
  cases he
  change wpList Tryz.prog _ _ [_, _, _, _, _, _] _ _
  go_wp2_with fail
  refine (nShapes_any nm gp _ _ S P L W W1 (HSS.out.keep HB1.out) (HPP.out.keep HB1.out) (fun i hi => (HPO.out i hi).keep HB1.out) hS HPL.out HRR.out).mono ?_
  rintro e w2 ⟨v2, ss, rfl, hs2, hk2, hb2⟩
  have HB2 := Lib.hid (ext_trans HB1.out hb2)
  have HK2 := Lib.hid hk2
  have hsl : ss.length = S.length := hk2.n
  clear hb2 hk2 HSS HPP HPO HN1 HB1
  obtain ⟨xa, xc, e2, _, _, q2⟩ := hs2
  rw [hsl] at e2 q2
  subst e2
  have Q2 := Lib.hid q2
  clear hsl q2
  go_wp2_with fail
  go_loopw [4, 20] (fun v i wr => ∃ k : Nat, k ≤ S.length ∧ i = .int .i64 k ∧ Hid (Below w2.heap.size w2 wr) ∧ Hid (OwnRc wr w2.heap.size v (tkB P (S.take k)))) (fun _ i _ => S.length - (intOf i).toNat)
  case atStart => exact ⟨0, Nat.zero_le _, rfl, Below.refl _ _, OwnRc_nil _ _⟩
  case round =>
    obtain ⟨k, hk, rfl, hb, ho⟩ := hrel
    by_cases hlt : k < S.length
    · have i1 : (k : Int) < S.length := by omega
      obtain ⟨pb, po, rfl, hc⟩ := Q2.out k hlt
      have HC := Lib.hid (hc.keep hb.out)
      have HSH := Lib.hid (HK2.out.s k hlt).o
      have HRG := Lib.hid (HRR.out k hlt).rgn
      have HTS := Lib.hid (tkB_succ P S k hlt)
      have HTL : Hid ((tkB P (S.take k)).length ≤ 32) := by show _ ≤ _; rw [tkB_len, List.length_take]; omega
      clear hc
      obtain ⟨x, hx⟩ : ∃ x, shi ss k = x := ⟨_, rfl⟩
      rw [hx] at HC HSH
      obtain ⟨o, ho'⟩ : ∃ o, mvO P (soi S k) = o := ⟨_, rfl⟩
      rw [ho'] at HSH HRG HTS
      obtain ⟨A, hA⟩ : ∃ A, tkB P (S.take k) = A := ⟨_, rfl⟩
      rw [hA] at HTS HTL ho
      clear hx ho' hA
      obtain ⟨oa, on, oc, ha, hn, hc, so, sl, hvs⟩ := x
      dsimp only at HC HSH
      go_upto_region 6 with fail
      refine wp_region_en 2 gmT gmT_ok [⟨pb, po + k * 2, shCells ⟨oa, on, oc, ha, hn, hc, so, sl, hvs⟩⟩] (fun v => v = wr) [] [(22, .ix k 0)] [(23, .agg (shA ⟨oa, on, oc, ha, hn, hc, so, sl, hvs⟩))] 8 23 47 (#[.slice none 0 0, .slice none 0 0]) (shA ⟨oa, on, oc, ha, hn, hc, so, sl, hvs⟩) (by kernel_rfl) rfl ⟨_, _, rfl, ⟨rfl, rfl, rfl⟩, rfl, rfl, rfl⟩ (by decide) alloc_Shape (by kernel_rfl) rfl ((by simp [shA, Value.oneCell']))
        (obsC (fun u hu => by cases hu; exact (sh_range HC.out)) obsN) trivial ?_
      conv => whnf
      refine And.intro (under_of ⟨rfl, hlt, rfl, rfl⟩) ?_
      conv => whnf
      refine And.intro (Nat.le_of_ble_eq_true rfl) ?_
      conv => whnf
      intro f3
      conv => whnf
      refine And.intro (rfl) ?_
      conv => whnf
      refine And.intro ⟨rfl, rfl⟩ ?_
      intro w2 h2
      conv => whnf
      cases h2
      obtain ⟨W3, HT3, HB3', HW3⟩ := newObj wr (shA ⟨oa, on, oc, ha, hn, hc, so, sl, hvs⟩) 47
      rw [HW3.out]
      have HB3 := Lib.hid (ext_trans hb.out HB3'.out)
      have HO3 := Lib.hid (ho.out.below HB3'.out)
      have HS3 := Lib.hid (HSH.out.keep HB3.out)
      have q0 := HT3.out.cell 0
      have q1 := HT3.out.cell 1
      simp only [shA] at q0 q1
      dsimp at q0 q1
      clear HW3 HB3' ho hb HT3
      go_wp2_with fail
      refine (gBounds_any _ _ o W3 HS3.out HRG.out.pos (by have := (HRG.out.ctr o (by simp)).n; omega) ⟨_, _, _, rfl⟩).mono ?_
      rintro e w4 ⟨rfl, hb4⟩
      have HB4 := Lib.hid (ext_trans HB3.out hb4)
      have HO4 := Lib.hid (HO3.out.below hb4)
      clear hb4 q0 q1 HB3 HO3 HS3
      obtain ⟨b, hbn⟩ : ∃ b, bndL o = b := ⟨_, rfl⟩
      rw [hbn] at HTS ⊢
      clear hbn
      obtain ⟨W6, HN6, HB6, HW6⟩ := newObj w4 (rcA b) 39
      unfold rcA at ⊢
      go_wp2_with (at_builtin; rw [show w4.alloc (.cells #[.int .i64 b.x0, .int .i64 b.y0, .int .i64 b.x1, .int .i64 b.y1] 39) = W6 from HW6.out]; refine wpList_app_Rc rfl (.tmp 24) (.tmp 27) rfl w2.heap.size u4 A [b] rfl (HO4.out.below HB6.out) ⟨w4.heap.size, 0, none⟩ 1 1 rfl (sRc_one (rcC HN6.out)) (by have := HTL.out; simp; omega) (Nat.le_trans HB4.out.size HB6.out.size) ?_)
      intro v7 w7 ho7 hg7 _
      have HO7 : Hid (OwnRc w7 w2.heap.size v7 (tkB P (S.take (k + 1)))) := by show OwnRc ..; rw [HTS.out]; exact ho7
      have hlt7 : ∀ r, u4.ownBlock = some r → w2.heap.size ≤ r := fun r hr => (OwnRc.lt HO4.out r hr).1
      have HB7 := Lib.hid ((ext_trans HB4.out HB6.out).grown hg7 (ext_trans HB4.out HB6.out).size hlt7)
      clear ho7 hg7 hlt7 HW6 HN6 HB6 HO4 HB4
      go_wp2_with fail
      go_roundw
      case rel => exact ⟨k + 1, by omega, by go_num, HB7, HO7⟩
      case measure => simp [intOf]; omega
    · have i1 : ¬ (k : Int) < S.length := by omega
      have e : k = S.length := by omega
      have HO6 : Hid (SRc wr u4 (tkB P S)) := by show SRc ..; have := ho.out.s; rw [e, List.take_length] at this; exact this
      clear e
      go_wp2_with fail
      go_ret2
      exact ⟨_, rfl, HO6.out, ext_trans HB2.out hb.out⟩
end Go.Proofs.YtfmhickjefogdaaGreat
