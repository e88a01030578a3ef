/- Contract: cutOf of certify's reference. -/
import Derived.Test.YtehbnckdllbmgaaGreatDoorCerZ
import Derived.Test.YtehbnckdllbmgaaGreatDoorObj
set_option linter.unusedSimpArgs false
set_option linter.unusedVariables false
namespace Go.Proofs.YtehbnckdllbmgaaGreatDoor
open Go.RowKit

theorem scanR_nil {f : Nat} {x : List UInt8} {acc : List Int} (h : dgL x = []) : scanR f x acc = some (acc, x) := by cases f <;> simp [scanR, h]
theorem scanR_bad {f : Nat} {x : List UInt8} {acc : List Int} (h : dgL x ≠ []) (h2 : numP (dgL x) = none) : scanR (f + 1) x acc = none := by simp [scanR, h, h2]
theorem scanR_go {f : Nat} {x : List UInt8} {acc : List Int} {n : Int} (h : dgL x ≠ []) (h2 : numP (dgL x) = some n) (h3 : (x.drop (dgL x).length).head? = some 32 ∧ dgL (x.drop ((dgL x).length + 1)) ≠ []) :
    scanR (f + 1) x acc = scanR f (x.drop ((dgL x).length + 1)) (acc ++ [n]) := by simp only [scanR, if_neg h, h2, if_pos h3]
theorem scanR_end {f : Nat} {x : List UInt8} {acc : List Int} {n : Int} (h : dgL x ≠ []) (h2 : numP (dgL x) = some n) (h3 : ¬ ((x.drop (dgL x).length).head? = some 32 ∧ dgL (x.drop ((dgL x).length + 1)) ≠ [])) :
    scanR (f + 1) x acc = some (acc ++ [n], x.drop (dgL x).length) := by simp only [scanR, if_neg h, h2, if_neg h3]
theorem cutE_mk {w w' : World} {l : List UInt8} {u : Value} {n : Int} {b : Bool} (hu : ∃ p k c, u = .slice p k c) (hb : Below w.heap.size w w') (h : if b = true then ∃ c : Cut, cutS l = some c ∧ n = c.2 ∧ OwnI w' w.heap.size u c.1 else cutS l = none) : CutE w l (.returned (.tuple #[.agg #[u, .int .i64 n], .bool b])) w' := ⟨u, n, b, rfl, hu, hb, h⟩

/-- the answer's cells, when nothing has been found -/
theorem fin_no {w x : World} {b : Nat} {y0 y1 : Value} (h : ObjAt x b #[y0, y1] 54) (hb : Below b w x) (v0 : Value) (n : Int) :
    ((x.setCell ⟨b, 0, none⟩ v0).setCell ⟨b, 1, none⟩ (.int .i64 n)).cell? ⟨b, 0, none⟩ = some v0 ∧ ((x.setCell ⟨b, 0, none⟩ v0).setCell ⟨b, 1, none⟩ (.int .i64 n)).cell? ⟨b, 1, none⟩ = some (.int .i64 n) ∧ Below b w ((x.setCell ⟨b, 0, none⟩ v0).setCell ⟨b, 1, none⟩ (.int .i64 n)) := by
  have h2 := (h.set 0 v0).set 1 (.int .i64 n)
  exact ⟨by simpa using h2.cell 0, by simpa using h2.cell 1, (hb.setCell (p := ⟨b, 0, none⟩) (Nat.le_refl _) _).setCell (p := ⟨b, 1, none⟩) (Nat.le_refl _) _⟩
theorem tailR_short {ns : List Int} {r : List UInt8} (h : r.length < 2) : tailR ns r = none := by
  unfold tailR
  rw [if_neg]
  intro e
  have := congrArg List.length e
  rw [List.length_take] at this
  simp at this
  omega
theorem tailR_ne {ns : List Int} {r : List UInt8} (h : r.take 2 ≠ [58, 32]) : tailR ns r = none := by unfold tailR; rw [if_neg h]
theorem tailR_none {ns : List Int} {r : List UInt8} (h : r.take 2 = [58, 32]) (h2 : numP (dgL (r.drop 2)) = none) : tailR ns r = none := by unfold tailR; rw [if_pos h, h2]
theorem tailR_some {ns : List Int} {r : List UInt8} {st : Int} (h : r.take 2 = [58, 32]) (h2 : numP (dgL (r.drop 2)) = some st) : tailR ns r = if (dgL (r.drop 2)).length = (r.drop 2).length then some (ns, st) else none := by unfold tailR; rw [if_pos h, h2]

set_option maxHeartbeats 4000000 in
set_option maxRecDepth 100000 in
theorem cutOf_any (s : ByteArray) (w : World) (hs : s.size ≤ 1000000) : Calls Tryz.prog 56 #[.string s] w (CutE w s.data.toList) := by
  obtain ⟨l, hl⟩ : ∃ l, l = s.data.toList := ⟨_, rfl⟩
  have HL := Lib.hid hl
  have HLS : Hid (l.length = s.size) := by rw [hl]; exact size_data s
  have HRC : Hid (cutS l = match scanR l.length l [] with | none => none | some (ns, r) => tailR ns r) := (refCut_eq l).symm
  rw [← hl]
  clear hl
  obtain ⟨W1, hW1⟩ : ∃ W1, W1 = (w.alloc (.cells #[.slice none 0 0, .int .i64 0] 54)).alloc (.cells #[.slice none 0 0, .int .i64 0] 54) := ⟨_, rfl⟩
  have hb1 : Below w.heap.size w W1 := by rw [hW1]; exact ((Below.refl _ _).alloc (Nat.le_refl _) _).alloc (by simp) _
  have x2 : ObjAt W1 w.heap.size #[.slice none 0 0, .int .i64 0] 54 := by rw [hW1]; exact (ObjAt.new _ _ _).alloc _
  have x4 : ObjAt W1 (w.heap.size + 1) #[.slice none 0 0, .int .i64 0] 54 := by rw [hW1]; have := ObjAt.new (w.alloc (.cells #[.slice none 0 0, .int .i64 0] 54)) #[.slice none 0 0, .int .i64 0] 54; rwa [World.size_alloc] at this
  have HB1 := Lib.hid hb1; have X2 := Lib.hid x2; have X4 := Lib.hid x4
  clear hb1 x2 x4
  go_enter Tryz.func56, Tryz.ntmps56
  go_wp2_with fail
  rw [← hW1]
  clear hW1
  go_loopw [5] (fun av wr => ∃ (A F : Nat) (v : Value) (ns : List Int), A ≤ s.size ∧ av = .int .i64 A ∧ ns.length ≤ A ∧ Hid (Below w.heap.size w wr) ∧ Hid (ObjAt wr w.heap.size #[.slice none 0 0, .int .i64 0] 54) ∧ Hid (ObjAt wr (w.heap.size + 1) #[v, .int .i64 0] 54) ∧ Hid (OwnI wr w.heap.size v ns) ∧ Hid ((l.drop A).length ≤ F) ∧ Hid (scanR F (l.drop A) ns = scanR l.length l [])) (fun av _ => s.size - (intOf av).toNat)
  case atStart => exact ⟨0, l.length, _, [], Nat.zero_le _, rfl, Nat.le_refl _, HB1.out, X2.out, X4.out, OwnI_nil _ _, by show _ ≤ _; simp, rfl⟩
  case round =>
    obtain ⟨A, F, v, ns, hA, rfl, hnA, hbw, x2, x4, how, hF, hsc⟩ := hrel
    obtain ⟨p, hp⟩ : ∃ p, p = s.extract A s.size := ⟨_, rfl⟩
    have HPL : Hid (p.data.toList = l.drop A) := by rw [hp, HL.out]; exact ext_list s A hA
    have hpz : p.size = s.size - A := by rw [hp]; simp
    have hps : p.size ≤ 1000000 := by omega
    have i0 : (A : Int) ≤ s.size := by omega
    obtain ⟨va, vc, rfl, hv1, hv2⟩ := how.out.si.sl
    have HDV := Lib.hid (digits_any p)
    have HNV := Lib.hid (rnumber_any p)
    rw [hp] at HDV HNV
    obtain ⟨D, hD⟩ : ∃ D, D = (dgL (l.drop A)).length := ⟨_, rfl⟩
    have HDD := Lib.hid hD
    have HDL : Hid (D + A ≤ s.size) := by
      have h1 := dgL_len (l.drop A)
      have h2 := HLS.out
      rw [List.length_drop] at h1
      show _ ≤ _
      omega
    go_wp2_with fail
    refine (HDV.out wr (by rw [← hp]; exact hps)).mono ?_
    rintro e w1 ⟨rfl, m1, rfl⟩
    rw [← hp, HPL.out, ← hD]
    clear hD
    by_cases hD0 : D = 0
    · subst hD0
      have HSC : Hid (scanR l.length l [] = some (ns, l.drop A)) := hsc.out.symm.trans (scanR_nil (List.eq_nil_of_length_eq_zero HDD.out.symm))
      clear hp hpz hps hsc hF HDV HNV HPL
      obtain ⟨Bz, hBz⟩ : ∃ Bz, Bz = wr.drewN m1 := ⟨_, rfl⟩
      obtain ⟨nsb, hnsb⟩ : ∃ nsb, nsb = ns := ⟨_, rfl⟩
      obtain ⟨vab, hvab⟩ : ∃ v, v = va := ⟨_, rfl⟩
      obtain ⟨vcb, hvcb⟩ : ∃ v, v = vc := ⟨_, rfl⟩
      subst hnsb hvab hvcb
      have x2b : Hid (ObjAt Bz w.heap.size #[.slice none 0 0, .int .i64 0] 54) := by rw [hBz]; exact x2.out
      have x4b : Hid (ObjAt Bz (w.heap.size + 1) #[.slice vab nsb.length vcb, .int .i64 0] 54) := by rw [hBz]; exact x4.out
      have hbb : Hid (Below w.heap.size w Bz) := by rw [hBz]; exact below_drewN' hbw.out _
      have howb : Hid (OwnI Bz w.heap.size (.slice vab nsb.length vcb) nsb) := by rw [hBz]; exact how.out.below (below_drewN' (Below.refl _ _) _)
      rw [← hBz]
      clear hBz x2 x4 hbw how
      have a0 := x2b.out.cell 0; have a1 := x2b.out.cell 1; have f0 := x2b.out.frozen 0; have f1 := x2b.out.frozen 1
      have b0 := x4b.out.cell 0; have b1 := x4b.out.cell 1; have g0 := x4b.out.frozen 0; have g1 := x4b.out.frozen 1
      simp at a0 a1 b0 b1
      have HCS : Hid (cutS l = tailR nsb (l.drop A)) := by show _ = _; rw [HRC.out, HSC.out]
      have hA1 : (A : Int) + 2 ≤ 9223372036854775807 := by omega
      by_cases t2 : s.size < A + 2
      · have hd : decide ((s.size : Int) < (A : Nat) + 2) = true := by rw [decide_eq_true_eq]; omega
        have HCN : Hid (cutS l = none) := by
          show _ = _
          rw [HCS.out, tailR_short (by rw [List.length_drop, HLS.out]; omega)]
        clear t2
        go_wp2_with fail
        obtain ⟨e0, e1, e2⟩ := fin_no (x := Bz) x2b.out hbb.out (.slice none 0 0) 0
        refine bodyPost_ret (v := .tuple #[.agg #[.slice none 0 0, .int .i64 0], .bool false]) (by simp [results, Tryz.results56, go_sem, e0, e1]) rfl ?_
        exact cutE_mk ⟨_, _, _, rfl⟩ e2 (by rw [if_neg (by decide)]; exact HCN.out)
      have hd : decide ((s.size : Int) < (A : Nat) + 2) = false := by rw [decide_eq_false_iff_not]; omega
      obtain ⟨pq, hpq⟩ : ∃ pq, pq = s.extract A (A + 2) := ⟨_, rfl⟩
      have HPQ : Hid (pq.data.toList = (l.drop A).take 2) := by
        show _ = _
        rw [hpq, HL.out, ByteArray.data_extract, Array.toList_extract, List.extract_eq_take_drop, show A + 2 - A = 2 by omega]
      have hsl : ∀ W : World, (Instr.slice 9 (.string s) (some (.int .i64 (A : Nat))) (some (.int .i64 ((A : Nat) + 2))) none).run Tryz.prog W = .ok (.string pq) W := fun W => by rw [hpq]; exact run_slice_string (P := Tryz.prog) W 9 s .i64 .i64 A (A + 2) Tryz.underlying9 (by omega) (by omega) (by omega)
      by_cases t3 : pq.toList = [58, 32]
      rotate_left
      · have HCN : Hid (cutS l = none) := by
          show _ = _
          rw [HCS.out, tailR_ne]
          intro h
          rw [← HPQ.out, ← toList_data] at h
          exact t3 h
        have hne : (pq.toList == ([58, 32] : List UInt8)) = false := by rw [beq_eq_false_iff_ne]; exact t3
        clear t3 hpq t2
        go_wp2_with fail
        obtain ⟨e0, e1, e2⟩ := fin_no (x := Bz) x2b.out hbb.out (.slice none 0 0) 0
        refine bodyPost_ret (v := .tuple #[.agg #[.slice none 0 0, .int .i64 0], .bool false]) (by simp [results, Tryz.results56, go_sem, e0, e1]) rfl ?_
        exact cutE_mk ⟨_, _, _, rfl⟩ e2 (by rw [if_neg (by decide)]; exact HCN.out)
      have HT2 : Hid ((l.drop A).take 2 = [58, 32]) := by show _ = _; rw [← HPQ.out, ← toList_data]; exact t3
      obtain ⟨q, hq⟩ : ∃ q, q = s.extract (A + 2) s.size := ⟨_, rfl⟩
      have HQL : Hid (q.data.toList = (l.drop A).drop 2) := by show _ = _; rw [hq, HL.out, List.drop_drop]; exact ext_list s (A + 2) (by omega)
      have hqs : q.size ≤ 1000000 := by rw [hq]; simp; omega
      have HQN : Hid (((l.drop A).drop 2).length + (A + 2) = s.size) := by
        have := HLS.out
        show _ = _
        rw [List.length_drop, List.length_drop]; omega
      have hsl2 : ∀ W : World, (Instr.slice 9 (.string s) (some (.int .i64 ((A : Nat) + 2))) none none).run Tryz.prog W = .ok (.string q) W := fun W => by
        have h := run_slice_string_l (P := Tryz.prog) (w := W) (t := 9) (s := s) Tryz.underlying9 .i64 (((A + 2 : Nat)) : Int) (by omega) (by omega)
        rw [hq]
        exact h
      have heq : (pq.toList == ([58, 32] : List UInt8)) = true := by rw [beq_iff_eq]; exact t3
      clear hpq t2 hq t3
      go_wp2_with fail
      refine (rnumber_any q Bz hqs).mono ?_
      rintro e w5 ⟨rfl, m5, rfl⟩
      rw [HQL.out]
      cases hnp : numP (dgL ((l.drop A).drop 2)) with
      | none =>
        have hok := numR_none hnp
        have HCN : Hid (cutS l = none) := by show _ = _; rw [HCS.out, tailR_none HT2.out hnp]
        obtain ⟨r, hr⟩ : ∃ r, r = numR ((l.drop A).drop 2) := ⟨_, rfl⟩
        rw [← hr] at hok ⊢
        obtain ⟨n1, k1, ok1⟩ := r
        obtain rfl : ok1 = false := hok
        clear hr
        clear hnp
        go_wp2_with fail
        have x4n := (x4b.out.drewN m5).set 1 (.int .i64 n1)
        obtain ⟨e0, e1, e2⟩ := fin_no (x := (Bz.drewN m5).setCell ⟨w.heap.size + 1, 1, none⟩ (.int .i64 n1)) ((x2b.out.drewN m5).other (b' := w.heap.size + 1) (by omega) 1 (.int .i64 n1)) ((below_drewN' hbb.out _).setCell (p := ⟨w.heap.size + 1, 1, none⟩) (by dsimp only; omega) _) (.slice vab nsb.length vcb) n1
        have x2n := (x2b.out.drewN m5).other (b' := w.heap.size + 1) (by omega) 1 (.int .i64 n1)
        refine bodyPost_ret (v := .tuple #[.agg #[.slice vab nsb.length vcb, .int .i64 n1], .bool false]) (by simp [results, Tryz.results56, go_sem, e0, e1]) rfl ?_
        exact cutE_mk ⟨_, _, _, rfl⟩ e2 (by rw [if_neg (by decide)]; exact HCN.out)
      | some st =>
        obtain ⟨D2, hD2⟩ : ∃ D2, D2 = (dgL ((l.drop A).drop 2)).length := ⟨_, rfl⟩
        have HD2 : Hid (cutS l = if D2 = ((l.drop A).drop 2).length then some (nsb, st) else none) := by show _ = _; rw [HCS.out, tailR_some HT2.out hnp, hD2]
        have hD2l : D2 ≤ 1000000 := by have h1 := dgL_len ((l.drop A).drop 2); have h2 := HQN.out; omega
        rw [numR_some hnp, ← hD2]
        clear hnp hD2
        by_cases hend : D2 + (A + 2) = s.size
        · have he : (((A : Nat) : Int) + 2 + (D2 : Nat) == (s.size : Int)) = true := by rw [beq_iff_eq]; omega
          have HCY : Hid (cutS l = some (nsb, st)) := by show _ = _; rw [HD2.out, if_pos (by have := HQN.out; omega)]
          clear hend
          go_wp2_with fail
          have x4n := (x4b.out.drewN m5).set 1 (.int .i64 st)
          obtain ⟨e0, e1, e2⟩ := fin_no (x := (Bz.drewN m5).setCell ⟨w.heap.size + 1, 1, none⟩ (.int .i64 st)) ((x2b.out.drewN m5).other (b' := w.heap.size + 1) (by omega) 1 (.int .i64 st)) ((below_drewN' hbb.out _).setCell (p := ⟨w.heap.size + 1, 1, none⟩) (by dsimp only; omega) _) (.slice vab nsb.length vcb) st
          have x2n := (x2b.out.drewN m5).other (b' := w.heap.size + 1) (by omega) 1 (.int .i64 st)
          refine bodyPost_ret (v := .tuple #[.agg #[.slice vab nsb.length vcb, .int .i64 st], .bool true]) (by simp [results, Tryz.results56, go_sem, e0, e1]) rfl ?_
          exact cutE_mk ⟨_, _, _, rfl⟩ e2 (by rw [if_pos rfl]; exact ⟨_, HCY.out, rfl, (x2n.set 0 _).rowSet (x2n.rowSet ((x4b.out.drewN m5).rowSet (howb.out.below (below_drewN' (Below.refl _ _) _)) (by decide) _ _) (by decide) _ _) (by decide) _ _⟩)
        · have he : (((A : Nat) : Int) + 2 + (D2 : Nat) == (s.size : Int)) = false := by rw [beq_eq_false_iff_ne]; omega
          have HCN : Hid (cutS l = none) := by show _ = _; rw [HD2.out, if_neg (by have := HQN.out; omega)]
          clear hend
          go_wp2_with fail
          have x4n := (x4b.out.drewN m5).set 1 (.int .i64 st)
          obtain ⟨e0, e1, e2⟩ := fin_no (x := (Bz.drewN m5).setCell ⟨w.heap.size + 1, 1, none⟩ (.int .i64 st)) ((x2b.out.drewN m5).other (b' := w.heap.size + 1) (by omega) 1 (.int .i64 st)) ((below_drewN' hbb.out _).setCell (p := ⟨w.heap.size + 1, 1, none⟩) (by dsimp only; omega) _) (.slice vab nsb.length vcb) st
          have x2n := (x2b.out.drewN m5).other (b' := w.heap.size + 1) (by omega) 1 (.int .i64 st)
          refine bodyPost_ret (v := .tuple #[.agg #[.slice vab nsb.length vcb, .int .i64 st], .bool false]) (by simp [results, Tryz.results56, go_sem, e0, e1]) rfl ?_
          exact cutE_mk ⟨_, _, _, rfl⟩ e2 (by rw [if_neg (by decide)]; exact HCN.out)
    · have hDp : 0 < D := by omega
      have HDN : Hid (dgL (l.drop A) ≠ []) := fun h => hD0 (by rw [HDD.out, h]; rfl)
      obtain ⟨F', hF'⟩ : ∃ F', F = F' + 1 := ⟨F - 1, by
        have h1 := hF.out
        have h2 := dgL_len (l.drop A)
        have h3 := HDD.out
        omega⟩
      subst hF'
      clear hD0
      go_wp2_with fail
      refine (HNV.out (wr.drewN m1) (by rw [← hp]; exact hps)).mono ?_
      rintro e w2 ⟨rfl, m2, rfl⟩
      rw [← hp, HPL.out]
      cases hnp : numP (dgL (l.drop A)) with
      | none =>
        have hok := numR_none hnp
        obtain ⟨r, hr⟩ : ∃ r, r = numR (l.drop A) := ⟨_, rfl⟩
        rw [← hr] at hok ⊢
        obtain ⟨n1, k1, ok1⟩ := r
        obtain rfl : ok1 = false := hok
        clear hr
        have HCN : Hid (cutS l = none) := by
          show _ = _
          rw [HRC.out, ← hsc.out, scanR_bad HDN.out hnp]
        have x2' := x2.out; have x4' := x4.out
        have a0 := x2'.cell 0; have a1 := x2'.cell 1; have f0 := x2'.frozen 0; have f1 := x2'.frozen 1
        simp at a0 a1
        clear hnp hp hpz hps HDV HNV HPL
        go_wp2_with fail
        have h1 := (x2'.drewN (m1 + m2)).set 0 (.slice none 0 0)
        have h2 := h1.set 1 (.int .i64 0)
        have e0 := h2.cell 0; have e1 := h2.cell 1
        simp at e0 e1
        refine bodyPost_ret (v := .tuple #[.agg #[.slice none 0 0, .int .i64 0], .bool false]) (by simp [results, Tryz.results56, go_sem, e0, e1]) rfl ?_
        exact cutE_mk ⟨_, _, _, rfl⟩ (((below_drewN' hbw.out _).setCell (p := ⟨w.heap.size, 0, none⟩) (Nat.le_refl _) _).setCell (p := ⟨w.heap.size, 1, none⟩) (Nat.le_refl _) _) (by rw [if_neg (by decide)]; exact HCN.out)
      | some n =>
        rw [numR_some hnp, ← HDD.out]
        have HNP := Lib.hid hnp
        have x2' := x2.out; have x4' := x4.out
        have a0 := x4'.cell 0; have a1 := x4'.cell 1; have f0 := x4'.frozen 0; have f1 := x4'.frozen 1
        simp at a0 a1
        have hbs := hbw.out.size
        have hd2 : ∀ m, (wr.drewN m).heap.size = wr.heap.size := fun _ => rfl
        clear hnp hp hpz HDV HNV HPL
        go_wp2_with (at_builtin; refine wpList_app_int rfl (.tmp 29) (.tmp 31) rfl w.heap.size _ _ ns [n] rfl rfl (OwnI.alloc (how.out.below (by first | exact below_drewN' (Below.refl _ _) _ | exact below_drewN' (below_drewN' (Below.refl _ _) _) _)) _) (SI_one _ _ _) (by simp; omega) (by simp; omega) ?_)
        intro v3 x3 ho3 hg3 _
        have hx3 : Below w.heap.size w x3 := ((below_drewN' hbw.out _).alloc (by exact hbs) _).grown hg3 (by simp; omega) (fun k hk => (World.ownsRow.lt how.out k hk).1)
        have hX4 : ObjAt x3 (w.heap.size + 1) _ 54 := ((x4'.drewN (m1 + m2)).alloc _).grown hg3 (x4'.ne how.out (by decide))
        have hX2 : ObjAt x3 w.heap.size _ 54 := ((x2'.drewN (m1 + m2)).alloc _).grown hg3 (x2'.ne how.out (by decide))
        obtain ⟨vab, vcb, rfl, _, _⟩ := (OwnI.si ho3).sl
        obtain ⟨nsb, hnsb⟩ : ∃ nsb, nsb = ns ++ [n] := ⟨_, rfl⟩
        have HNSB := Lib.hid hnsb
        rw [← hnsb] at ho3 ⊢
        have hnbl : nsb.length ≤ A + D := by rw [hnsb]; simp; omega
        clear hg3 hnsb
        have k0 := hX4.cell 0; have k1 := hX4.cell 1; have q0 := hX4.frozen 0; have q1 := hX4.frozen 1
        simp at k0 k1
        obtain ⟨Bz, hBz⟩ : ∃ Bz, Bz = x3.setCell ⟨w.heap.size + 1, 0, none⟩ (.slice vab nsb.length vcb) := ⟨_, rfl⟩
        have x2b : Hid (ObjAt Bz w.heap.size #[.slice none 0 0, .int .i64 0] 54) := by rw [hBz]; exact hX2.other (by omega) _ _
        have x4b : Hid (ObjAt Bz (w.heap.size + 1) #[.slice vab nsb.length vcb, .int .i64 0] 54) := by rw [hBz]; exact hX4.set 0 _
        have hbb : Hid (Below w.heap.size w Bz) := by rw [hBz]; exact hx3.setCell (p := ⟨w.heap.size + 1, 0, none⟩) (by dsimp only; omega) _
        have howb : Hid (OwnI Bz w.heap.size (.slice vab nsb.length vcb) nsb) := by rw [hBz]; exact hX4.rowSet ho3 (by decide) _ _
        clear hX4 hX2 hx3 ho3 x2' x4' a0 a1 f0 f1 x2 x4 hbw how hd2 hbs
        go_upto_region 8 with fail
        rw [← hBz]
        clear hBz k0 k1 q0 q1
        obtain ⟨E, hEq⟩ : ∃ E, E = A + D := ⟨_, rfl⟩
        have hE : (A : Int) + (D : Int) = (E : Int) := by omega
        have hEs : E ≤ s.size := by have := HDL.out; omega
        have hAE : A < E := by omega
        have hnE : nsb.length ≤ E := by omega
        have HNE0 := Lib.hid hnE
        have HXD : Hid ((l.drop A).drop (dgL (l.drop A)).length = l.drop E) := by show _ = _; rw [← HDD.out, List.drop_drop, hEq]
        have HXD1 : Hid ((l.drop A).drop ((dgL (l.drop A)).length + 1) = l.drop (E + 1)) := by show _ = _; rw [← HDD.out, List.drop_drop, hEq, Nat.add_assoc]
        have HEND : Hid (¬ ((l.drop E).head? = some 32 ∧ dgL (l.drop (E + 1)) ≠ []) → scanR l.length l [] = some (nsb, l.drop E)) := fun h => by
          rw [← hsc.out, scanR_end HDN.out HNP.out (by rw [HXD.out, HXD1.out]; exact h), HXD.out, HNSB.out]
        have HGO : Hid ((l.drop E).head? = some 32 ∧ dgL (l.drop (E + 1)) ≠ [] → scanR F' (l.drop (E + 1)) nsb = scanR l.length l []) := fun h => by
          rw [← hsc.out, scanR_go HDN.out HNP.out (by rw [HXD.out, HXD1.out]; exact h), HXD1.out, HNSB.out]
        have HFE : Hid ((l.drop (E + 1)).length ≤ F') := by
          have h1 := hF.out
          rw [List.length_drop] at h1
          show _ ≤ _
          rw [List.length_drop]; omega
        have HHD : Hid (E < s.size → (l.drop E).head? = some (bi s E)) := fun h => by
          have h1 : E < l.length := by have := HLS.out; omega
          rw [List.head?_drop, List.getElem?_eq_getElem h1]
          unfold bi
          rw [← HL.out, List.getD_eq_getElem?_getD, List.getElem?_eq_getElem h1]; rfl
        have hEi : (E : Int) ≤ s.size := by omega
        clear hDp hnA hnbl hF
        have HE := Lib.hid hE
        have hADs : A + D ≤ s.size := by omega
        clear hE hEq hAE hEs hnE hEi
        go_upto_region 9 with fail
        rw [HE.out]
        clear hADs
        have hEq : E = A + D := by have := HE.out; omega
        have hEs : E ≤ s.size := by have := HDL.out; omega
        have hAE : A < E := by have := HDN.out; have := HDD.out; by_cases h : D = 0; (exact absurd (List.eq_nil_of_length_eq_zero (by omega)) HDN.out); omega
        have hnE : nsb.length ≤ E := by have := HNE0.out; omega
        have hEi : (E : Int) ≤ s.size := by omega
        clear hEq
        by_cases c1 : E < s.size
        rotate_left
        · have HSC : Hid (scanR l.length l [] = some (nsb, l.drop E)) := HEND.out (by
            rintro ⟨h, _⟩
            rw [List.drop_eq_nil_of_le (by have := HLS.out; omega)] at h
            cases h)
          have a0 := x2b.out.cell 0; have a1 := x2b.out.cell 1; have f0 := x2b.out.frozen 0; have f1 := x2b.out.frozen 1
          have b0 := x4b.out.cell 0; have b1 := x4b.out.cell 1; have g0 := x4b.out.frozen 0; have g1 := x4b.out.frozen 1
          simp at a0 a1 b0 b1
          have HCS : Hid (cutS l = tailR nsb (l.drop E)) := by show _ = _; rw [HRC.out, HSC.out]
          by_cases t2 : s.size < E + 2
          · have hd : decide ((s.size : Int) < (E : Nat) + 2) = true := by rw [decide_eq_true_eq]; omega
            have HCN : Hid (cutS l = none) := by
              show _ = _
              rw [HCS.out, tailR_short (by rw [List.length_drop, HLS.out]; omega)]
            clear t2
            go_wp2_with fail
            obtain ⟨e0, e1, e2⟩ := fin_no (x := Bz) x2b.out hbb.out (.slice none 0 0) 0
            refine bodyPost_ret (v := .tuple #[.agg #[.slice none 0 0, .int .i64 0], .bool false]) (by simp [results, Tryz.results56, go_sem, e0, e1]) rfl ?_
            exact cutE_mk ⟨_, _, _, rfl⟩ e2 (by rw [if_neg (by decide)]; exact HCN.out)
          have hd : decide ((s.size : Int) < (E : Nat) + 2) = false := by rw [decide_eq_false_iff_not]; omega
          obtain ⟨pq, hpq⟩ : ∃ pq, pq = s.extract E (E + 2) := ⟨_, rfl⟩
          have HPQ : Hid (pq.data.toList = (l.drop E).take 2) := by
            show _ = _
            rw [hpq, HL.out, ByteArray.data_extract, Array.toList_extract, List.extract_eq_take_drop, show E + 2 - E = 2 by omega]
          have hsl : ∀ W : World, (Instr.slice 9 (.string s) (some (.int .i64 (E : Nat))) (some (.int .i64 ((E : Nat) + 2))) none).run Tryz.prog W = .ok (.string pq) W := fun W => by rw [hpq]; exact run_slice_string (P := Tryz.prog) W 9 s .i64 .i64 E (E + 2) Tryz.underlying9 (by omega) (by omega) (by omega)
          by_cases t3 : pq.toList = [58, 32]
          rotate_left
          · have HCN : Hid (cutS l = none) := by
              show _ = _
              rw [HCS.out, tailR_ne]
              intro h
              rw [← HPQ.out, ← toList_data] at h
              exact t3 h
            have hne : (pq.toList == ([58, 32] : List UInt8)) = false := by rw [beq_eq_false_iff_ne]; exact t3
            clear t3 hpq t2
            go_wp2_with fail
            obtain ⟨e0, e1, e2⟩ := fin_no (x := Bz) x2b.out hbb.out (.slice none 0 0) 0
            refine bodyPost_ret (v := .tuple #[.agg #[.slice none 0 0, .int .i64 0], .bool false]) (by simp [results, Tryz.results56, go_sem, e0, e1]) rfl ?_
            exact cutE_mk ⟨_, _, _, rfl⟩ e2 (by rw [if_neg (by decide)]; exact HCN.out)
          have HT2 : Hid ((l.drop E).take 2 = [58, 32]) := by show _ = _; rw [← HPQ.out, ← toList_data]; exact t3
          obtain ⟨q, hq⟩ : ∃ q, q = s.extract (E + 2) s.size := ⟨_, rfl⟩
          have HQL : Hid (q.data.toList = (l.drop E).drop 2) := by show _ = _; rw [hq, HL.out, List.drop_drop]; exact ext_list s (E + 2) (by omega)
          have hqs : q.size ≤ 1000000 := by rw [hq]; simp; omega
          have HQN : Hid (((l.drop E).drop 2).length + (E + 2) = s.size) := by
            have := HLS.out
            show _ = _
            rw [List.length_drop, List.length_drop]; omega
          have hsl2 : ∀ W : World, (Instr.slice 9 (.string s) (some (.int .i64 ((E : Nat) + 2))) none none).run Tryz.prog W = .ok (.string q) W := fun W => by
            have h := run_slice_string_l (P := Tryz.prog) (w := W) (t := 9) (s := s) Tryz.underlying9 .i64 (((E + 2 : Nat)) : Int) (by omega) (by omega)
            rw [hq]
            exact h
          have heq : (pq.toList == ([58, 32] : List UInt8)) = true := by rw [beq_iff_eq]; exact t3
          clear hpq t2 hq t3
          go_wp2_with fail
          refine (rnumber_any q Bz hqs).mono ?_
          rintro e w5 ⟨rfl, m5, rfl⟩
          rw [HQL.out]
          cases hnp : numP (dgL ((l.drop E).drop 2)) with
          | none =>
            have hok := numR_none hnp
            have HCN : Hid (cutS l = none) := by show _ = _; rw [HCS.out, tailR_none HT2.out hnp]
            obtain ⟨r, hr⟩ : ∃ r, r = numR ((l.drop E).drop 2) := ⟨_, rfl⟩
            rw [← hr] at hok ⊢
            obtain ⟨n1, k1, ok1⟩ := r
            obtain rfl : ok1 = false := hok
            clear hr
            clear hnp
            go_wp2_with fail
            have x4n := (x4b.out.drewN m5).set 1 (.int .i64 n1)
            obtain ⟨e0, e1, e2⟩ := fin_no (x := (Bz.drewN m5).setCell ⟨w.heap.size + 1, 1, none⟩ (.int .i64 n1)) ((x2b.out.drewN m5).other (b' := w.heap.size + 1) (by omega) 1 (.int .i64 n1)) ((below_drewN' hbb.out _).setCell (p := ⟨w.heap.size + 1, 1, none⟩) (by dsimp only; omega) _) (.slice vab nsb.length vcb) n1
            have x2n := (x2b.out.drewN m5).other (b' := w.heap.size + 1) (by omega) 1 (.int .i64 n1)
            refine bodyPost_ret (v := .tuple #[.agg #[.slice vab nsb.length vcb, .int .i64 n1], .bool false]) (by simp [results, Tryz.results56, go_sem, e0, e1]) rfl ?_
            exact cutE_mk ⟨_, _, _, rfl⟩ e2 (by rw [if_neg (by decide)]; exact HCN.out)
          | some st =>
            obtain ⟨D2, hD2⟩ : ∃ D2, D2 = (dgL ((l.drop E).drop 2)).length := ⟨_, rfl⟩
            have HD2 : Hid (cutS l = if D2 = ((l.drop E).drop 2).length then some (nsb, st) else none) := by show _ = _; rw [HCS.out, tailR_some HT2.out hnp, hD2]
            have hD2l : D2 ≤ 1000000 := by have h1 := dgL_len ((l.drop E).drop 2); have h2 := HQN.out; omega
            rw [numR_some hnp, ← hD2]
            clear hnp hD2
            by_cases hend : D2 + (E + 2) = s.size
            · have he : (((E : Nat) : Int) + 2 + (D2 : Nat) == (s.size : Int)) = true := by rw [beq_iff_eq]; omega
              have HCY : Hid (cutS l = some (nsb, st)) := by show _ = _; rw [HD2.out, if_pos (by have := HQN.out; omega)]
              clear hend
              go_wp2_with fail
              have x4n := (x4b.out.drewN m5).set 1 (.int .i64 st)
              obtain ⟨e0, e1, e2⟩ := fin_no (x := (Bz.drewN m5).setCell ⟨w.heap.size + 1, 1, none⟩ (.int .i64 st)) ((x2b.out.drewN m5).other (b' := w.heap.size + 1) (by omega) 1 (.int .i64 st)) ((below_drewN' hbb.out _).setCell (p := ⟨w.heap.size + 1, 1, none⟩) (by dsimp only; omega) _) (.slice vab nsb.length vcb) st
              have x2n := (x2b.out.drewN m5).other (b' := w.heap.size + 1) (by omega) 1 (.int .i64 st)
              refine bodyPost_ret (v := .tuple #[.agg #[.slice vab nsb.length vcb, .int .i64 st], .bool true]) (by simp [results, Tryz.results56, go_sem, e0, e1]) rfl ?_
              exact cutE_mk ⟨_, _, _, rfl⟩ e2 (by rw [if_pos rfl]; exact ⟨_, HCY.out, rfl, (x2n.set 0 _).rowSet (x2n.rowSet ((x4b.out.drewN m5).rowSet (howb.out.below (below_drewN' (Below.refl _ _) _)) (by decide) _ _) (by decide) _ _) (by decide) _ _⟩)
            · have he : (((E : Nat) : Int) + 2 + (D2 : Nat) == (s.size : Int)) = false := by rw [beq_eq_false_iff_ne]; omega
              have HCN : Hid (cutS l = none) := by show _ = _; rw [HD2.out, if_neg (by have := HQN.out; omega)]
              clear hend
              go_wp2_with fail
              have x4n := (x4b.out.drewN m5).set 1 (.int .i64 st)
              obtain ⟨e0, e1, e2⟩ := fin_no (x := (Bz.drewN m5).setCell ⟨w.heap.size + 1, 1, none⟩ (.int .i64 st)) ((x2b.out.drewN m5).other (b' := w.heap.size + 1) (by omega) 1 (.int .i64 st)) ((below_drewN' hbb.out _).setCell (p := ⟨w.heap.size + 1, 1, none⟩) (by dsimp only; omega) _) (.slice vab nsb.length vcb) st
              have x2n := (x2b.out.drewN m5).other (b' := w.heap.size + 1) (by omega) 1 (.int .i64 st)
              refine bodyPost_ret (v := .tuple #[.agg #[.slice vab nsb.length vcb, .int .i64 st], .bool false]) (by simp [results, Tryz.results56, go_sem, e0, e1]) rfl ?_
              exact cutE_mk ⟨_, _, _, rfl⟩ e2 (by rw [if_neg (by decide)]; exact HCN.out)
        have hbE := bi_eq s c1
        obtain ⟨cb, hcb⟩ : ∃ cb, cb = (bi s E).toNat := ⟨_, rfl⟩
        by_cases c2 : cb = 32
        rotate_left
        · have HSC : Hid (scanR l.length l [] = some (nsb, l.drop E)) := HEND.out (by
            rintro ⟨h, _⟩
            rw [HHD.out c1] at h
            exact c2 (by rw [hcb, Option.some.inj h]; rfl))
          have hdd : (((bi s E).toNat : Int) == 32) = false := by rw [beq_eq_false_iff_ne, ← hcb]; omega
          clear c2 hcb
          have a0 := x2b.out.cell 0; have a1 := x2b.out.cell 1; have f0 := x2b.out.frozen 0; have f1 := x2b.out.frozen 1
          have b0 := x4b.out.cell 0; have b1 := x4b.out.cell 1; have g0 := x4b.out.frozen 0; have g1 := x4b.out.frozen 1
          simp at a0 a1 b0 b1
          have HCS : Hid (cutS l = tailR nsb (l.drop E)) := by show _ = _; rw [HRC.out, HSC.out]
          by_cases t2 : s.size < E + 2
          · have hd : decide ((s.size : Int) < (E : Nat) + 2) = true := by rw [decide_eq_true_eq]; omega
            have HCN : Hid (cutS l = none) := by
              show _ = _
              rw [HCS.out, tailR_short (by rw [List.length_drop, HLS.out]; omega)]
            clear t2
            go_wp2_with fail
            obtain ⟨e0, e1, e2⟩ := fin_no (x := Bz) x2b.out hbb.out (.slice none 0 0) 0
            refine bodyPost_ret (v := .tuple #[.agg #[.slice none 0 0, .int .i64 0], .bool false]) (by simp [results, Tryz.results56, go_sem, e0, e1]) rfl ?_
            exact cutE_mk ⟨_, _, _, rfl⟩ e2 (by rw [if_neg (by decide)]; exact HCN.out)
          have hd : decide ((s.size : Int) < (E : Nat) + 2) = false := by rw [decide_eq_false_iff_not]; omega
          obtain ⟨pq, hpq⟩ : ∃ pq, pq = s.extract E (E + 2) := ⟨_, rfl⟩
          have HPQ : Hid (pq.data.toList = (l.drop E).take 2) := by
            show _ = _
            rw [hpq, HL.out, ByteArray.data_extract, Array.toList_extract, List.extract_eq_take_drop, show E + 2 - E = 2 by omega]
          have hsl : ∀ W : World, (Instr.slice 9 (.string s) (some (.int .i64 (E : Nat))) (some (.int .i64 ((E : Nat) + 2))) none).run Tryz.prog W = .ok (.string pq) W := fun W => by rw [hpq]; exact run_slice_string (P := Tryz.prog) W 9 s .i64 .i64 E (E + 2) Tryz.underlying9 (by omega) (by omega) (by omega)
          by_cases t3 : pq.toList = [58, 32]
          rotate_left
          · have HCN : Hid (cutS l = none) := by
              show _ = _
              rw [HCS.out, tailR_ne]
              intro h
              rw [← HPQ.out, ← toList_data] at h
              exact t3 h
            have hne : (pq.toList == ([58, 32] : List UInt8)) = false := by rw [beq_eq_false_iff_ne]; exact t3
            clear t3 hpq t2
            go_wp2_with fail
            obtain ⟨e0, e1, e2⟩ := fin_no (x := Bz) x2b.out hbb.out (.slice none 0 0) 0
            refine bodyPost_ret (v := .tuple #[.agg #[.slice none 0 0, .int .i64 0], .bool false]) (by simp [results, Tryz.results56, go_sem, e0, e1]) rfl ?_
            exact cutE_mk ⟨_, _, _, rfl⟩ e2 (by rw [if_neg (by decide)]; exact HCN.out)
          have HT2 : Hid ((l.drop E).take 2 = [58, 32]) := by show _ = _; rw [← HPQ.out, ← toList_data]; exact t3
          obtain ⟨q, hq⟩ : ∃ q, q = s.extract (E + 2) s.size := ⟨_, rfl⟩
          have HQL : Hid (q.data.toList = (l.drop E).drop 2) := by show _ = _; rw [hq, HL.out, List.drop_drop]; exact ext_list s (E + 2) (by omega)
          have hqs : q.size ≤ 1000000 := by rw [hq]; simp; omega
          have HQN : Hid (((l.drop E).drop 2).length + (E + 2) = s.size) := by
            have := HLS.out
            show _ = _
            rw [List.length_drop, List.length_drop]; omega
          have hsl2 : ∀ W : World, (Instr.slice 9 (.string s) (some (.int .i64 ((E : Nat) + 2))) none none).run Tryz.prog W = .ok (.string q) W := fun W => by
            have h := run_slice_string_l (P := Tryz.prog) (w := W) (t := 9) (s := s) Tryz.underlying9 .i64 (((E + 2 : Nat)) : Int) (by omega) (by omega)
            rw [hq]
            exact h
          have heq : (pq.toList == ([58, 32] : List UInt8)) = true := by rw [beq_iff_eq]; exact t3
          clear hpq t2 hq t3
          go_wp2_with fail
          refine (rnumber_any q Bz hqs).mono ?_
          rintro e w5 ⟨rfl, m5, rfl⟩
          rw [HQL.out]
          cases hnp : numP (dgL ((l.drop E).drop 2)) with
          | none =>
            have hok := numR_none hnp
            have HCN : Hid (cutS l = none) := by show _ = _; rw [HCS.out, tailR_none HT2.out hnp]
            obtain ⟨r, hr⟩ : ∃ r, r = numR ((l.drop E).drop 2) := ⟨_, rfl⟩
            rw [← hr] at hok ⊢
            obtain ⟨n1, k1, ok1⟩ := r
            obtain rfl : ok1 = false := hok
            clear hr
            clear hnp
            go_wp2_with fail
            have x4n := (x4b.out.drewN m5).set 1 (.int .i64 n1)
            obtain ⟨e0, e1, e2⟩ := fin_no (x := (Bz.drewN m5).setCell ⟨w.heap.size + 1, 1, none⟩ (.int .i64 n1)) ((x2b.out.drewN m5).other (b' := w.heap.size + 1) (by omega) 1 (.int .i64 n1)) ((below_drewN' hbb.out _).setCell (p := ⟨w.heap.size + 1, 1, none⟩) (by dsimp only; omega) _) (.slice vab nsb.length vcb) n1
            have x2n := (x2b.out.drewN m5).other (b' := w.heap.size + 1) (by omega) 1 (.int .i64 n1)
            refine bodyPost_ret (v := .tuple #[.agg #[.slice vab nsb.length vcb, .int .i64 n1], .bool false]) (by simp [results, Tryz.results56, go_sem, e0, e1]) rfl ?_
            exact cutE_mk ⟨_, _, _, rfl⟩ e2 (by rw [if_neg (by decide)]; exact HCN.out)
          | some st =>
            obtain ⟨D2, hD2⟩ : ∃ D2, D2 = (dgL ((l.drop E).drop 2)).length := ⟨_, rfl⟩
            have HD2 : Hid (cutS l = if D2 = ((l.drop E).drop 2).length then some (nsb, st) else none) := by show _ = _; rw [HCS.out, tailR_some HT2.out hnp, hD2]
            have hD2l : D2 ≤ 1000000 := by have h1 := dgL_len ((l.drop E).drop 2); have h2 := HQN.out; omega
            rw [numR_some hnp, ← hD2]
            clear hnp hD2
            by_cases hend : D2 + (E + 2) = s.size
            · have he : (((E : Nat) : Int) + 2 + (D2 : Nat) == (s.size : Int)) = true := by rw [beq_iff_eq]; omega
              have HCY : Hid (cutS l = some (nsb, st)) := by show _ = _; rw [HD2.out, if_pos (by have := HQN.out; omega)]
              clear hend
              go_wp2_with fail
              have x4n := (x4b.out.drewN m5).set 1 (.int .i64 st)
              obtain ⟨e0, e1, e2⟩ := fin_no (x := (Bz.drewN m5).setCell ⟨w.heap.size + 1, 1, none⟩ (.int .i64 st)) ((x2b.out.drewN m5).other (b' := w.heap.size + 1) (by omega) 1 (.int .i64 st)) ((below_drewN' hbb.out _).setCell (p := ⟨w.heap.size + 1, 1, none⟩) (by dsimp only; omega) _) (.slice vab nsb.length vcb) st
              have x2n := (x2b.out.drewN m5).other (b' := w.heap.size + 1) (by omega) 1 (.int .i64 st)
              refine bodyPost_ret (v := .tuple #[.agg #[.slice vab nsb.length vcb, .int .i64 st], .bool true]) (by simp [results, Tryz.results56, go_sem, e0, e1]) rfl ?_
              exact cutE_mk ⟨_, _, _, rfl⟩ e2 (by rw [if_pos rfl]; exact ⟨_, HCY.out, rfl, (x2n.set 0 _).rowSet (x2n.rowSet ((x4b.out.drewN m5).rowSet (howb.out.below (below_drewN' (Below.refl _ _) _)) (by decide) _ _) (by decide) _ _) (by decide) _ _⟩)
            · have he : (((E : Nat) : Int) + 2 + (D2 : Nat) == (s.size : Int)) = false := by rw [beq_eq_false_iff_ne]; omega
              have HCN : Hid (cutS l = none) := by show _ = _; rw [HD2.out, if_neg (by have := HQN.out; omega)]
              clear hend
              go_wp2_with fail
              have x4n := (x4b.out.drewN m5).set 1 (.int .i64 st)
              obtain ⟨e0, e1, e2⟩ := fin_no (x := (Bz.drewN m5).setCell ⟨w.heap.size + 1, 1, none⟩ (.int .i64 st)) ((x2b.out.drewN m5).other (b' := w.heap.size + 1) (by omega) 1 (.int .i64 st)) ((below_drewN' hbb.out _).setCell (p := ⟨w.heap.size + 1, 1, none⟩) (by dsimp only; omega) _) (.slice vab nsb.length vcb) st
              have x2n := (x2b.out.drewN m5).other (b' := w.heap.size + 1) (by omega) 1 (.int .i64 st)
              refine bodyPost_ret (v := .tuple #[.agg #[.slice vab nsb.length vcb, .int .i64 st], .bool false]) (by simp [results, Tryz.results56, go_sem, e0, e1]) rfl ?_
              exact cutE_mk ⟨_, _, _, rfl⟩ e2 (by rw [if_neg (by decide)]; exact HCN.out)
        have hdd : (((bi s E).toNat : Int) == 32) = true := by rw [beq_iff_eq, ← hcb]; omega
        have HH32 : Hid ((l.drop E).head? = some 32) := by
          show _ = _
          rw [HHD.out c1]
          exact congrArg some (UInt8.toNat_inj.1 (by rw [← hcb, c2]; rfl))
        clear c2 hcb
        obtain ⟨q3, hq3⟩ : ∃ q, q = s.extract (E + 1) s.size := ⟨_, rfl⟩
        have HQ3 : Hid (q3.data.toList = l.drop (E + 1)) := by show _ = _; rw [hq3, HL.out]; exact ext_list s (E + 1) (by omega)
        have hq3s : q3.size ≤ 1000000 := by rw [hq3]; simp; omega
        have hsl3 : ∀ W : World, (Instr.slice 9 (.string s) (some (.int .i64 ((E : Nat) + 1))) none none).run Tryz.prog W = .ok (.string q3) W := fun W => by
          have h := run_slice_string_l (P := Tryz.prog) (w := W) (t := 9) (s := s) Tryz.underlying9 .i64 (((E + 1 : Nat)) : Int) (by omega) (by omega)
          rw [hq3]
          exact h
        clear hq3
        go_wp2_with fail
        refine (digits_any q3 Bz hq3s).mono ?_
        rintro e w5 ⟨rfl, m6, rfl⟩
        rw [HQ3.out]
        obtain ⟨D3, hD3⟩ : ∃ D3, D3 = (dgL (l.drop (E + 1))).length := ⟨_, rfl⟩
        rw [← hD3]
        by_cases c3 : D3 = 0
        · have HSC : Hid (scanR l.length l [] = some (nsb, l.drop E)) := HEND.out (by
            rintro ⟨_, h⟩
            exact h (List.eq_nil_of_length_eq_zero (by omega)))
          subst c3
          obtain ⟨Bz2, hBz2⟩ : ∃ B2, B2 = Bz.drewN m6 := ⟨_, rfl⟩
          have x2b' : Hid (ObjAt Bz2 w.heap.size #[.slice none 0 0, .int .i64 0] 54) := by rw [hBz2]; exact x2b.out
          have x4b' : Hid (ObjAt Bz2 (w.heap.size + 1) #[.slice vab nsb.length vcb, .int .i64 0] 54) := by rw [hBz2]; exact x4b.out
          have hbb' : Hid (Below w.heap.size w Bz2) := by rw [hBz2]; exact below_drewN' hbb.out _
          have howb' : Hid (OwnI Bz2 w.heap.size (.slice vab nsb.length vcb) nsb) := by rw [hBz2]; exact howb.out.below (below_drewN' (Below.refl _ _) _)
          rw [← hBz2]
          clear hBz2 x2b x4b hbb howb hD3
          clear hsl3
          have a0 := x2b'.out.cell 0; have a1 := x2b'.out.cell 1; have f0 := x2b'.out.frozen 0; have f1 := x2b'.out.frozen 1
          have b0 := x4b'.out.cell 0; have b1 := x4b'.out.cell 1; have g0 := x4b'.out.frozen 0; have g1 := x4b'.out.frozen 1
          simp at a0 a1 b0 b1
          have HCS : Hid (cutS l = tailR nsb (l.drop E)) := by show _ = _; rw [HRC.out, HSC.out]
          by_cases t2 : s.size < E + 2
          · have hd : decide ((s.size : Int) < (E : Nat) + 2) = true := by rw [decide_eq_true_eq]; omega
            have HCN : Hid (cutS l = none) := by
              show _ = _
              rw [HCS.out, tailR_short (by rw [List.length_drop, HLS.out]; omega)]
            clear t2
            go_wp2_with fail
            obtain ⟨e0, e1, e2⟩ := fin_no (x := Bz2) x2b'.out hbb'.out (.slice none 0 0) 0
            refine bodyPost_ret (v := .tuple #[.agg #[.slice none 0 0, .int .i64 0], .bool false]) (by simp [results, Tryz.results56, go_sem, e0, e1]) rfl ?_
            exact cutE_mk ⟨_, _, _, rfl⟩ e2 (by rw [if_neg (by decide)]; exact HCN.out)
          have hd : decide ((s.size : Int) < (E : Nat) + 2) = false := by rw [decide_eq_false_iff_not]; omega
          obtain ⟨pq, hpq⟩ : ∃ pq, pq = s.extract E (E + 2) := ⟨_, rfl⟩
          have HPQ : Hid (pq.data.toList = (l.drop E).take 2) := by
            show _ = _
            rw [hpq, HL.out, ByteArray.data_extract, Array.toList_extract, List.extract_eq_take_drop, show E + 2 - E = 2 by omega]
          have hsl : ∀ W : World, (Instr.slice 9 (.string s) (some (.int .i64 (E : Nat))) (some (.int .i64 ((E : Nat) + 2))) none).run Tryz.prog W = .ok (.string pq) W := fun W => by rw [hpq]; exact run_slice_string (P := Tryz.prog) W 9 s .i64 .i64 E (E + 2) Tryz.underlying9 (by omega) (by omega) (by omega)
          by_cases t3 : pq.toList = [58, 32]
          rotate_left
          · have HCN : Hid (cutS l = none) := by
              show _ = _
              rw [HCS.out, tailR_ne]
              intro h
              rw [← HPQ.out, ← toList_data] at h
              exact t3 h
            have hne : (pq.toList == ([58, 32] : List UInt8)) = false := by rw [beq_eq_false_iff_ne]; exact t3
            clear t3 hpq t2
            go_wp2_with fail
            obtain ⟨e0, e1, e2⟩ := fin_no (x := Bz2) x2b'.out hbb'.out (.slice none 0 0) 0
            refine bodyPost_ret (v := .tuple #[.agg #[.slice none 0 0, .int .i64 0], .bool false]) (by simp [results, Tryz.results56, go_sem, e0, e1]) rfl ?_
            exact cutE_mk ⟨_, _, _, rfl⟩ e2 (by rw [if_neg (by decide)]; exact HCN.out)
          have HT2 : Hid ((l.drop E).take 2 = [58, 32]) := by show _ = _; rw [← HPQ.out, ← toList_data]; exact t3
          obtain ⟨q, hq⟩ : ∃ q, q = s.extract (E + 2) s.size := ⟨_, rfl⟩
          have HQL : Hid (q.data.toList = (l.drop E).drop 2) := by show _ = _; rw [hq, HL.out, List.drop_drop]; exact ext_list s (E + 2) (by omega)
          have hqs : q.size ≤ 1000000 := by rw [hq]; simp; omega
          have HQN : Hid (((l.drop E).drop 2).length + (E + 2) = s.size) := by
            have := HLS.out
            show _ = _
            rw [List.length_drop, List.length_drop]; omega
          have hsl2 : ∀ W : World, (Instr.slice 9 (.string s) (some (.int .i64 ((E : Nat) + 2))) none none).run Tryz.prog W = .ok (.string q) W := fun W => by
            have h := run_slice_string_l (P := Tryz.prog) (w := W) (t := 9) (s := s) Tryz.underlying9 .i64 (((E + 2 : Nat)) : Int) (by omega) (by omega)
            rw [hq]
            exact h
          have heq : (pq.toList == ([58, 32] : List UInt8)) = true := by rw [beq_iff_eq]; exact t3
          clear hpq t2 hq t3
          go_wp2_with fail
          refine (rnumber_any q Bz2 hqs).mono ?_
          rintro e w5 ⟨rfl, m5, rfl⟩
          rw [HQL.out]
          cases hnp : numP (dgL ((l.drop E).drop 2)) with
          | none =>
            have hok := numR_none hnp
            have HCN : Hid (cutS l = none) := by show _ = _; rw [HCS.out, tailR_none HT2.out hnp]
            obtain ⟨r, hr⟩ : ∃ r, r = numR ((l.drop E).drop 2) := ⟨_, rfl⟩
            rw [← hr] at hok ⊢
            obtain ⟨n1, k1, ok1⟩ := r
            obtain rfl : ok1 = false := hok
            clear hr
            clear hnp
            go_wp2_with fail
            have x4n := (x4b'.out.drewN m5).set 1 (.int .i64 n1)
            obtain ⟨e0, e1, e2⟩ := fin_no (x := (Bz2.drewN m5).setCell ⟨w.heap.size + 1, 1, none⟩ (.int .i64 n1)) ((x2b'.out.drewN m5).other (b' := w.heap.size + 1) (by omega) 1 (.int .i64 n1)) ((below_drewN' hbb'.out _).setCell (p := ⟨w.heap.size + 1, 1, none⟩) (by dsimp only; omega) _) (.slice vab nsb.length vcb) n1
            have x2n := (x2b'.out.drewN m5).other (b' := w.heap.size + 1) (by omega) 1 (.int .i64 n1)
            refine bodyPost_ret (v := .tuple #[.agg #[.slice vab nsb.length vcb, .int .i64 n1], .bool false]) (by simp [results, Tryz.results56, go_sem, e0, e1]) rfl ?_
            exact cutE_mk ⟨_, _, _, rfl⟩ e2 (by rw [if_neg (by decide)]; exact HCN.out)
          | some st =>
            obtain ⟨D2, hD2⟩ : ∃ D2, D2 = (dgL ((l.drop E).drop 2)).length := ⟨_, rfl⟩
            have HD2 : Hid (cutS l = if D2 = ((l.drop E).drop 2).length then some (nsb, st) else none) := by show _ = _; rw [HCS.out, tailR_some HT2.out hnp, hD2]
            have hD2l : D2 ≤ 1000000 := by have h1 := dgL_len ((l.drop E).drop 2); have h2 := HQN.out; omega
            rw [numR_some hnp, ← hD2]
            clear hnp hD2
            by_cases hend : D2 + (E + 2) = s.size
            · have he : (((E : Nat) : Int) + 2 + (D2 : Nat) == (s.size : Int)) = true := by rw [beq_iff_eq]; omega
              have HCY : Hid (cutS l = some (nsb, st)) := by show _ = _; rw [HD2.out, if_pos (by have := HQN.out; omega)]
              clear hend
              go_wp2_with fail
              have x4n := (x4b'.out.drewN m5).set 1 (.int .i64 st)
              obtain ⟨e0, e1, e2⟩ := fin_no (x := (Bz2.drewN m5).setCell ⟨w.heap.size + 1, 1, none⟩ (.int .i64 st)) ((x2b'.out.drewN m5).other (b' := w.heap.size + 1) (by omega) 1 (.int .i64 st)) ((below_drewN' hbb'.out _).setCell (p := ⟨w.heap.size + 1, 1, none⟩) (by dsimp only; omega) _) (.slice vab nsb.length vcb) st
              have x2n := (x2b'.out.drewN m5).other (b' := w.heap.size + 1) (by omega) 1 (.int .i64 st)
              refine bodyPost_ret (v := .tuple #[.agg #[.slice vab nsb.length vcb, .int .i64 st], .bool true]) (by simp [results, Tryz.results56, go_sem, e0, e1]) rfl ?_
              exact cutE_mk ⟨_, _, _, rfl⟩ e2 (by rw [if_pos rfl]; exact ⟨_, HCY.out, rfl, (x2n.set 0 _).rowSet (x2n.rowSet ((x4b'.out.drewN m5).rowSet (howb'.out.below (below_drewN' (Below.refl _ _) _)) (by decide) _ _) (by decide) _ _) (by decide) _ _⟩)
            · have he : (((E : Nat) : Int) + 2 + (D2 : Nat) == (s.size : Int)) = false := by rw [beq_eq_false_iff_ne]; omega
              have HCN : Hid (cutS l = none) := by show _ = _; rw [HD2.out, if_neg (by have := HQN.out; omega)]
              clear hend
              go_wp2_with fail
              have x4n := (x4b'.out.drewN m5).set 1 (.int .i64 st)
              obtain ⟨e0, e1, e2⟩ := fin_no (x := (Bz2.drewN m5).setCell ⟨w.heap.size + 1, 1, none⟩ (.int .i64 st)) ((x2b'.out.drewN m5).other (b' := w.heap.size + 1) (by omega) 1 (.int .i64 st)) ((below_drewN' hbb'.out _).setCell (p := ⟨w.heap.size + 1, 1, none⟩) (by dsimp only; omega) _) (.slice vab nsb.length vcb) st
              have x2n := (x2b'.out.drewN m5).other (b' := w.heap.size + 1) (by omega) 1 (.int .i64 st)
              refine bodyPost_ret (v := .tuple #[.agg #[.slice vab nsb.length vcb, .int .i64 st], .bool false]) (by simp [results, Tryz.results56, go_sem, e0, e1]) rfl ?_
              exact cutE_mk ⟨_, _, _, rfl⟩ e2 (by rw [if_neg (by decide)]; exact HCN.out)
        · have HNE : Hid (dgL (l.drop (E + 1)) ≠ []) := fun h => c3 (by rw [hD3, h]; rfl)
          have hD3p : 0 < D3 := by omega
          clear c3 hD3
          go_wp2_with fail
          go_roundw
          case rel => exact ⟨E + 1, F', _, nsb, by omega, by go_num, by omega, below_drewN' hbb.out _, x2b.out, x4b.out, howb.out.below (below_drewN' (Below.refl _ _) _), HFE.out, HGO.out ⟨HH32.out, HNE.out⟩⟩
          case measure => simp [intOf]; omega
end Go.Proofs.YtehbnckdllbmgaaGreatDoor
