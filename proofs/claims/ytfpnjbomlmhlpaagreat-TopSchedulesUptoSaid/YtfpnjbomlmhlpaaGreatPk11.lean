/- Contracts: ascending, CheckJobs of sched, for jobs that are right. -/
import Derived.Test.YtfpnjbomlmhlpaaGreatPk10
import Derived.BigQuiet
set_option linter.unusedSimpArgs false
set_option linter.unusedVariables false

/- Contract: Edges of need. -/
namespace Go.Proofs.YtfpnjbomlmhlpaaGreat
open Go.RowKit Go.Maps

/-- the numbers, the pairs so far -/
structure EdgP (w w' : World) (g1 g2 : Nat) (bl : List (List UInt8)) (E : KV) (N : Nat) (L : Edg) (P : Nat × Nat → Prop) : Prop where
  num : NumM w' g1 bl.length bl E
  vm : VM 86 w' g2 N (kvP L)
  nd : L.Nodup
  mem : ∀ e, e ∈ L ↔ P e
  sm : SmallE L
  ln : L.length ≤ N
  bw : Below w.heap.size w w'
section
variable {w w' w'' : World} {g1 g2 : Nat} {bl : List (List UInt8)} {E : KV} {N : Nat} {L : Edg} {P : Nat × Nat → Prop}
theorem EdgP.keep (h : EdgP w w' g1 g2 bl E N L P) (hb : Below w'.heap.size w' w'') : EdgP w w'' g1 g2 bl E N L P := ⟨h.num.keep hb, h.vm.keep hb, h.nd, h.mem, h.sm, h.ln, ext_trans h.bw hb⟩
theorem EdgP.cong {P' : Nat × Nat → Prop} (h : EdgP w w' g1 g2 bl E N L P) (hp : ∀ e, P' e ↔ P e) : EdgP w w' g1 g2 bl E N L P' := ⟨h.num, h.vm, h.nd, fun e => (h.mem e).trans (hp e).symm, h.sm, h.ln, h.bw⟩
theorem NumM.turned (h : NumM w' g1 bl.length bl E) (ht : w'.mapTurned w'' g2) (hne : g1 ≠ g2) : NumM w'' g1 bl.length bl E :=
  ⟨h.m.kept ht.grown (fun e => hne (Option.some.inj e)), h.keys, fun i hi => by
    obtain ⟨a, c, e, q1, q2, q3⟩ := h.vals i hi
    exact ⟨a, c, e, q1, q2, fun i hi => by
      obtain ⟨b, off, ha, hc⟩ := q3 i hi
      exact ⟨b, off, ha, cell_turned ht hc⟩⟩⟩
theorem EdgP.lay {P' : Nat × Nat → Prop} (h : EdgP w w' g1 g2 bl E N L P) (hne : g1 ≠ g2) (h2 : w.heap.size ≤ g2) (hN : N ≤ 1000000) {e : Nat × Nat} (e1 : e.1 ≤ 1000000) (e2 : e.2 ≤ 1000000) (hp : ∀ f, P' f ↔ P f ∨ f = e) :
    ∃ w'' L', (Instr.mapUpdate 140 (.map (some g2)) (.agg #[.int .i64 e.1, .int .i64 e.2]) (.bool true)).run Tryz.prog w' = .ok () w'' ∧ EdgP w w'' g1 g2 bl E (N + 1) L' P' := by
  obtain ⟨w'', r1, r2, r3⟩ := h.vm.lay h.sm (by unfold maxLen; omega) e1 e2
  refine ⟨w'', _, r1, h.num.turned r3 hne, r2, ?_, fun f => ?_, fun f hf => ?_, (by have := h.ln; split <;> simp <;> omega), turned_below h.bw r3 h2⟩
  · split
    · exact h.nd
    · rename_i hn
      exact List.nodup_append.2 ⟨h.nd, by simp, fun x hx y hy => by simp at hy; subst hy; intro e; subst e; exact hn hx⟩
  · rw [hp f, ← h.mem f]
    split
    · rename_i hm
      exact ⟨fun h => .inl h, fun h => h.elim id fun e => by rw [e]; exact hm⟩
    · rw [List.mem_append, List.mem_singleton]
  · split at hf
    · exact h.sm f hf
    · rcases List.mem_append.1 hf with hf | hf
      · exact h.sm f hf
      · rw [List.mem_singleton.1 hf]; exact ⟨e1, e2⟩
end
theorem idx_lt {bl : List (List UInt8)} {s : List UInt8} {i : Nat} (h : i ∈ idxL bl s) : i < bl.length := by
  unfold idxL at h
  split at h
  · rename_i hm
    rw [List.mem_singleton.1 h]; exact (atB_lt hm).1
  · cases h
theorem idx_len (bl : List (List UInt8)) (s : List UInt8) : (idxL bl s).length ≤ 1 := by unfold idxL; split <;> simp
theorem mem_idx {bl : List (List UInt8)} (hd : bl.Nodup) {s : List UInt8} {i : Nat} : i ∈ idxL bl s ↔ i < bl.length ∧ bkI bl i = s := by
  constructor
  · intro h
    refine ⟨idx_lt h, ?_⟩
    unfold idxL at h
    split at h
    · rename_i hm
      rw [List.mem_singleton.1 h]; exact (atB_lt hm).2
    · cases h
  · rintro ⟨h1, rfl⟩
    have hm : bkI bl i ∈ bl := by
      unfold bkI; rw [List.getD_eq_getElem?_getD, List.getElem?_eq_getElem h1]; exact List.getElem_mem h1
    unfold idxL
    rw [if_pos hm, atB_at hd h1]
    exact List.mem_singleton.2 rfl
theorem ask_one {bl : List (List UInt8)} (hd : bl.Nodup) {x : Nd} (h : x.kind = 1) (e : Nat × Nat) : askE x bl e ↔ e.1 ∈ idxL bl x.on ∧ e.2 ∈ idxL bl x.block ∧ e.1 ≠ e.2 := by
  unfold askE asksN
  rw [mem_idx hd, mem_idx hd, h]
  simp only [Bool.or_eq_true, Bool.and_eq_true, beq_iff_eq]
  constructor
  · rintro ⟨a, b, c, (⟨⟨_, d⟩, f⟩ | ⟨⟨d, _⟩, _⟩)⟩
    · exact ⟨⟨a, f.symm⟩, ⟨b, d.symm⟩, c⟩
    · exact absurd d (by decide)
  · rintro ⟨⟨a, f⟩, ⟨b, d⟩, c⟩
    exact ⟨a, b, c, .inl ⟨⟨trivial, d.symm⟩, f.symm⟩⟩
theorem ask_two {bl : List (List UInt8)} (hd : bl.Nodup) {x : Nd} (h : x.kind = 2) (e : Nat × Nat) : askE x bl e ↔ e.1 ∈ idxL bl x.block ∧ e.2 ∈ idxL bl x.on ∧ e.1 ≠ e.2 := by
  unfold askE asksN
  rw [mem_idx hd, mem_idx hd, h]
  simp only [Bool.or_eq_true, Bool.and_eq_true, beq_iff_eq]
  constructor
  · rintro ⟨a, b, c, (⟨⟨d, _⟩, _⟩ | ⟨⟨_, d⟩, f⟩)⟩
    · exact absurd d (by decide)
    · exact ⟨⟨a, d.symm⟩, ⟨b, f.symm⟩, c⟩
  · rintro ⟨⟨a, d⟩, ⟨b, f⟩, c⟩
    exact ⟨a, b, c, .inr ⟨⟨trivial, d.symm⟩, f.symm⟩⟩
theorem ask_no {bl : List (List UInt8)} {x : Nd} (h1 : x.kind ≠ 1) (h2 : x.kind ≠ 2) (e : Nat × Nat) : ¬ askE x bl e := by
  unfold askE asksN
  simp [h1, h2]
theorem take_ask {es : List Nd} {bl : List (List UInt8)} {m : Nat} (h : m < es.length) (e : Nat × Nat) : (∃ x ∈ es.take (m + 1), askE x bl e) ↔ (∃ x ∈ es.take m, askE x bl e) ∨ askE (ndi es m) bl e := by
  rw [take_ndi h]
  constructor
  · rintro ⟨x, hx, ha⟩
    rcases List.mem_append.1 hx with hx | hx
    · exact .inl ⟨x, hx, ha⟩
    · rw [List.mem_singleton.1 hx] at ha; exact .inr ha
  · rintro (⟨x, hx, ha⟩ | ha)
    · exact ⟨x, List.mem_append_left _ hx, ha⟩
    · exact ⟨_, List.mem_append_right _ (List.mem_singleton.2 rfl), ha⟩
/-- the range over the pairs -/
structure RngP (w w' : World) (B g2 r N : Nat) (Dm : DataW Value) (L : Edg) (left : Lit → Bool) (cnt : Nat) (M : Edg) (o : Value) : Prop where
  rg : w'.ranges Tryz.prog 86 heldR g2 r N Dm left cnt
  lf : ∀ s, left (.string s) = true ↔ ∃ e ∈ L, e ∉ M ∧ s = pairK e
  o : OwnEg w' B o M
  nd : M.Nodup
  sub : ∀ e ∈ M, e ∈ L
  bw : Below w.heap.size w w'
set_option maxRecDepth 100000 in
set_option maxHeartbeats 4000000 in
theorem nEdges_any (D : Des) (ns : List Nod) (es : List Nd) (w : World) (h : DesOK w D ns es) (hn : ns.length ≤ 256) (he : es.length ≤ 10000) (hd : (blocksF ns).Nodup) (hs : ∀ x ∈ ns, x.id.length ≤ maxLen) (hs2 : ∀ x ∈ es, x.block.length ≤ maxLen ∧ x.on.length ≤ maxLen) :
    Calls Tryz.prog 32 #[.agg (desA D)] w fun e w' => ∃ v, e = .returned v ∧ SEg w' v (edgF es (blocksF ns) (blocksF ns).length) ∧ Below w.heap.size w w' := by
  have HB := Lib.hid (fun w' (hb : Below w.heap.size w w') => Blocks_any D ns w' (h.n.keep hb) (by omega))
  have HDE := Lib.hid h.e.n
  have H3 := Lib.hid (fun i (hi : i < es.length) => h.e.at hi)
  have HS2 := Lib.hid hs2; have HD := Lib.hid hd
  have hbl := blocks_le ns
  have HSB : Hid (∀ s ∈ blocksF ns, s.length ≤ maxLen) := fun s hm => by
    unfold blocksF at hm
    obtain ⟨x, hx, rfl⟩ := List.mem_map.1 hm
    exact hs x (List.mem_filter.1 hx).1
  clear h hs hs2 hd
  obtain ⟨W0, HO0, HB0, HW0, HZ0⟩ := boxD w D
  have hm : es.length ≤ 9223372036854775807 := by omega
  have hmm := @run_makeMap Tryz.prog
  unfold desA
  go_enter Tryz.func32, Tryz.ntmps32
  go_upto_region 1 with fail
  rw [HW0.out]
  clear HW0
  obtain ⟨c0, c1, c2, c3, c4, c5⟩ := desC HO0.out
  go_wp2_with fail
  refine (HB.out W0 HB0.out).mono ?_
  rintro e w1 ⟨bv, rfl, hbs, h1'⟩
  clear c0 c1 c2 c3 c4 c5
  obtain ⟨bl, hblq⟩ : ∃ bl, blocksF ns = bl := ⟨_, rfl⟩
  have HBLQ := Lib.hid hblq
  rw [hblq] at hbs hbl HD HSB
  clear hblq
  have HB1 := Lib.hid (ext_trans HB0.out h1')
  have HO1 := Lib.hid (HO0.out.keep h1')
  go_wp2_with fail
  refine (numbers_any bv bl w1 hbs HD.out (by omega) HSB.out).mono ?_
  rintro e w2 ⟨g1, E, rfl, hnm, h2'⟩
  have HB2 := Lib.hid (ext_trans HB1.out h2')
  have HO2 := Lib.hid (HO1.out.keep h2')
  have HNM := Lib.hid hnm
  clear h1' h2' hbs hnm HB HO0 HO1
  obtain ⟨W3, hW3⟩ : ∃ W3, w2.alloc (.map #[] 0) = W3 := ⟨_, rfl⟩
  have HP0 : Hid (EdgP w W3 g1 w2.heap.size bl E 0 [] (fun e => ∃ x ∈ es.take 0, askE x bl e)) := by
    show EdgP ..
    rw [← hW3]
    refine ⟨HNM.out.keep ((Below.refl _ _).alloc (Nat.le_refl _) _), VM.made w2, List.nodup_nil, fun e => ?_, fun e he => (by cases he), Nat.le_refl _, HB2.out.alloc HB2.out.size _⟩
    constructor
    · intro h; cases h
    · rintro ⟨x, hx, _⟩; cases hx
  have HO3 : Hid (ObjAt W3 w.heap.size (desA D) 28) := by show ObjAt ..; rw [← hW3]; exact HO2.out.alloc _
  have HC3 : Hid (Below w2.heap.size w2 W3) := by show Below ..; rw [← hW3]; exact (Below.refl _ _).alloc (Nat.le_refl _) _
  have HW3 := Lib.hid hW3
  clear hW3
  go_upto_region 3 with fail
  rw [HW3.out]
  have hg1 := HNM.out.m.lt
  have hwg := HB2.out.size
  generalize w2.heap.size = g2 at *
  have HG1 : Hid (g1 ≠ g2) := by show _ ≠ _; omega
  have HWG := Lib.hid hwg
  clear HW3 hmm HNM HO2 hg1 hwg
  obtain ⟨c0, c1, c2, c3, c4, c5⟩ := desC HO3.out
  rw [HDE.out] at c5
  go_wp2_with fail
  clear c0 c1 c2 c3 c4 c5
  go_loopw [22] (fun i wr => ∃ m : Nat, m ≤ es.length ∧ i = .int .i64 m ∧ Hid (∃ N L, N ≤ m ∧ EdgP w wr g1 g2 bl E N L (fun e => ∃ x ∈ es.take m, askE x bl e))) (fun i _ => es.length - (intOf i).toNat)
  case atStart => exact ⟨0, Nat.zero_le _, rfl, Lib.hid ⟨0, [], Nat.le_refl _, HP0.out⟩⟩
  case round =>
    obtain ⟨m, hm2, rfl, hp⟩ := hrel
    obtain ⟨N, L, hN, hp⟩ := hp.out
    have HP := Lib.hid hp
    clear hp
    by_cases hlt : m < es.length
    · obtain ⟨b, off, ha, hc⟩ := H3.out m hlt
      have HA := Lib.hid ha
      obtain ⟨c0, c1, c2⟩ := hc.keep HP.out.bw
      obtain ⟨WC, HOC, HCC, HW, HZC⟩ := copyNd wr (ndi es m)
      have HPC := Lib.hid (HP.out.keep HCC.out)
      obtain ⟨hz1, hz2⟩ := HS2.out _ (ndi_mem hlt)
      have HTA := Lib.hid (take_ask (bl := bl) hlt)
      have HAN := Lib.hid (fun h e => ask_one HD.out (x := ndi es m) h e)
      have HAT := Lib.hid (fun h e => ask_two HD.out (x := ndi es m) h e)
      have HNO := Lib.hid (fun h1 h2 e => ask_no (bl := bl) (x := ndi es m) h1 h2 e)
      generalize ndi es m = x at *
      clear hc ha
      rw [HA.out]
      go_upto_region 6 with fail
      rw [HW.out]
      clear c0 c1 c2 HW
      obtain ⟨c0, c1, c2⟩ := ndC HOC.out
      rw [Nat.zero_add] at c1 c2
      go_quiet (fail)
      obtain ⟨W5, hW5⟩ : ∃ W5, WC.drewN nq = W5 := ⟨_, rfl⟩
      have HC5 : Hid (Below WC.heap.size WC W5) := by show Below ..; rw [← hW5]; exact ⟨rfl, rfl, rfl, Nat.le_refl _, fun k hk => rfl⟩
      rw [hW5]
      clear hW5 c0 c1 c2
      have HP5 := Lib.hid (HPC.out.keep HC5.out)
      obtain ⟨c0, c1, c2⟩ := ndC (HOC.out.keep HC5.out)
      rw [Nat.zero_add] at c1 c2
      by_cases hk1 : x.kind = 1
      · have b1 : (x.kind == 1) = true := by rw [hk1]; rfl
        have HAS := Lib.hid (HAN.out hk1)
        clear hk1
        obtain ⟨a1, k1, hv1, q3⟩ := HP5.out.num.form HD.out x.on
        have hl1 := HP5.out.num.look (s := x.on) hz2
        rw [hv1] at hl1
        have Q3 := Lib.hid q3
        obtain ⟨a2, k2, hv2, p3⟩ := HP5.out.num.form HD.out x.block
        have HV2 := Lib.hid hv2
        have P3 := Lib.hid p3
        clear hv1 hv2 p3
        have hA1 := idx_len bl x.on
        have HAL := Lib.hid (fun i => idx_lt (bl := bl) (s := x.on) (i := i))
        have HBL := Lib.hid (fun i => idx_lt (bl := bl) (s := x.block) (i := i))
        have hB1 := idx_len bl x.block
        obtain ⟨A, hA⟩ : ∃ A, idxL bl x.on = A := ⟨_, rfl⟩
        obtain ⟨Bq, hBq⟩ : ∃ Bq, idxL bl x.block = Bq := ⟨_, rfl⟩
        have HBQ := Lib.hid hBq
        rw [hA] at hl1 hA1 HAL HAS Q3
        rw [hBq] at hB1 HBL HAS HV2 P3
        have hmA : A.length ≤ 9223372036854775807 := by omega
        have hmB : Bq.length ≤ 9223372036854775807 := by omega
        clear q3 hA hBq
        go_upto_region 12 with fail
        clear hl1 c0 c1 c2
        go_loopw [44] (fun i w' => ∃ j : Nat, j ≤ A.length ∧ i = .int .i64 j ∧ Hid (∃ N' L', N' ≤ m + j ∧ EdgP w w' g1 g2 bl E N' L' (fun e => (∃ x ∈ es.take m, askE x bl e) ∨ (e.1 ∈ A.take j ∧ e.2 ∈ Bq ∧ e.1 ≠ e.2)))) (fun i _ => A.length - (intOf i).toNat)
        case atStart => exact ⟨0, Nat.zero_le _, rfl, Lib.hid ⟨N, L, hN, HP5.out.cong fun e => ⟨fun h => h.elim id fun h => (by cases h.1), .inl⟩⟩⟩
        case round =>
          obtain ⟨j, hj, rfl, hp2⟩ := hrel
          obtain ⟨N2, L2, hN2, hp2⟩ := hp2.out
          have HP2 := Lib.hid hp2
          clear hp2
          by_cases hltA : j < A.length
          · obtain ⟨ab, ao, rfl, hcc⟩ := Q3.out wr HP2.out.num j hltA
            have hl2 := HP2.out.num.look (s := x.block) hz1
            rw [HV2.out] at hl2
            have hAjl := HAL.out _ (List.getElem_mem hltA)
            have HTJ : Hid (A.take (j + 1) = A.take j ++ [A[j]]) := List.take_succ_eq_append_getElem hltA
            generalize A[j] = aj at *
            obtain ⟨WR, hWR⟩ : ∃ WR, WR = wr := ⟨_, rfl⟩
            subst hWR
            go_upto_region 15 with fail
            clear hcc hl2
            go_loopw [52] (fun i w' => ∃ l : Nat, l ≤ Bq.length ∧ i = .int .i64 l ∧ Hid (∃ N' L', N' ≤ m + j + l ∧ EdgP w w' g1 g2 bl E N' L' (fun e => ((∃ x ∈ es.take m, askE x bl e) ∨ (e.1 ∈ A.take j ∧ e.2 ∈ Bq ∧ e.1 ≠ e.2)) ∨ (e.1 = aj ∧ e.2 ∈ Bq.take l ∧ e.1 ≠ e.2)))) (fun i _ => Bq.length - (intOf i).toNat)
            case atStart => exact ⟨0, Nat.zero_le _, rfl, Lib.hid ⟨N2, L2, hN2, HP2.out.cong fun e => ⟨fun h => h.elim id fun h => (by cases h.2.1), .inl⟩⟩⟩
            case round =>
              obtain ⟨l, hl, rfl, hp3⟩ := hrel
              obtain ⟨N3, L3, hN3, hp3⟩ := hp3.out
              have HP3 := Lib.hid hp3
              clear hp3
              by_cases hltB : l < Bq.length
              · obtain ⟨bb, bo, rfl, hcc⟩ := P3.out wr HP3.out.num l hltB
                have hBll := HBL.out _ (List.getElem_mem hltB)
                have HTL : Hid (Bq.take (l + 1) = Bq.take l ++ [Bq[l]]) := List.take_succ_eq_append_getElem hltB
                generalize Bq[l] = bj at *
                by_cases hne : aj = bj
                · have b1 : ((aj : Int) != (bj : Int)) = false := by rw [hne]; simp
                  have HP4 : Hid (∃ N' L', N' ≤ m + j + (l + 1) ∧ EdgP w wr g1 g2 bl E N' L' (fun e => ((∃ x ∈ es.take m, askE x bl e) ∨ (e.1 ∈ A.take j ∧ e.2 ∈ Bq ∧ e.1 ≠ e.2)) ∨ (e.1 = aj ∧ e.2 ∈ Bq.take (l + 1) ∧ e.1 ≠ e.2))) := Lib.hid ⟨N3, L3, by omega, HP3.out.cong fun e => by
                    rw [HTL.out, List.mem_append, List.mem_singleton]
                    refine or_congr_right ⟨fun h => ⟨h.1, h.2.1.elim id fun q => absurd (h.1.trans (hne.trans q.symm)) h.2.2, h.2.2⟩, fun h => ⟨h.1, .inl h.2.1, h.2.2⟩⟩⟩
                  clear hne
                  go_wp2_with fail
                  go_roundw
                  case rel => exact ⟨l + 1, by omega, by go_num, HP4⟩
                  case measure => simp [intOf]; omega
                · have b1 : ((aj : Int) != (bj : Int)) = true := by rw [bne_iff_ne]; omega
                  obtain ⟨w8, L8, hst, hp8⟩ := HP3.out.lay (P' := fun e => ((∃ x ∈ es.take m, askE x bl e) ∨ (e.1 ∈ A.take j ∧ e.2 ∈ Bq ∧ e.1 ≠ e.2)) ∨ (e.1 = aj ∧ e.2 ∈ Bq.take (l + 1) ∧ e.1 ≠ e.2)) HG1.out HWG.out (by omega) (e := (aj, bj)) (by show aj ≤ _; omega) (by show bj ≤ _; omega) fun f => by
                    rw [HTL.out, List.mem_append, List.mem_singleton]
                    constructor
                    · rintro (h | ⟨h1, h2, h3⟩)
                      · exact .inl (.inl h)
                      · rcases h2 with h2 | h2
                        · exact .inl (.inr ⟨h1, h2, h3⟩)
                        · exact .inr (Prod.ext h1 h2)
                    · rintro ((h | ⟨h1, h2, h3⟩) | rfl)
                      · exact .inl h
                      · exact .inr ⟨h1, .inl h2, h3⟩
                      · exact .inr ⟨rfl, .inr rfl, hne⟩
                  have HP8 := Lib.hid hp8
                  have hst' : (Instr.mapUpdate 140 (.map (some g2)) (.agg #[.int .i64 aj, .int .i64 bj]) (.bool true)).run Tryz.prog wr = .ok () w8 := hst
                  have HP4 : Hid (∃ N' L', N' ≤ m + j + (l + 1) ∧ EdgP w w8 g1 g2 bl E N' L' (fun e => ((∃ x ∈ es.take m, askE x bl e) ∨ (e.1 ∈ A.take j ∧ e.2 ∈ Bq ∧ e.1 ≠ e.2)) ∨ (e.1 = aj ∧ e.2 ∈ Bq.take (l + 1) ∧ e.1 ≠ e.2))) := Lib.hid ⟨N3 + 1, L8, by omega, HP8.out⟩
                  clear hne hst hp8
                  go_wp2_with fail
                  go_roundw
                  case rel => exact ⟨l + 1, by omega, by go_num, HP4⟩
                  case measure => simp [intOf]; omega
              · obtain rfl : l = Bq.length := by omega
                have HP4 : Hid (∃ N' L', N' ≤ m + (j + 1) ∧ EdgP w wr g1 g2 bl E N' L' (fun e => (∃ x ∈ es.take m, askE x bl e) ∨ (e.1 ∈ A.take (j + 1) ∧ e.2 ∈ Bq ∧ e.1 ≠ e.2))) := Lib.hid ⟨N3, L3, by omega, HP3.out.cong fun e => by
                  rw [HTJ.out, List.take_length, List.mem_append, List.mem_singleton, or_assoc]
                  refine or_congr_right ⟨fun h => h.1.elim (fun q => .inl ⟨q, h.2⟩) fun q => .inr ⟨q, h.2⟩, fun h => h.elim (fun q => ⟨.inl q.1, q.2⟩) fun q => ⟨.inr q.1, q.2⟩⟩⟩
                go_wp2_with fail
                go_roundw
                case rel => exact ⟨j + 1, by omega, by go_num, HP4⟩
                case measure => simp [intOf]; omega
          · obtain rfl : j = A.length := by omega
            have HP4 : Hid (∃ N' L', N' ≤ m + 1 ∧ EdgP w wr g1 g2 bl E N' L' (fun e => ∃ x ∈ es.take (m + 1), askE x bl e)) := Lib.hid ⟨N2, L2, by omega, HP2.out.cong fun e => by
              rw [HTA.out, HAS.out, List.take_length]⟩
            go_wp2_with fail
            go_roundw
            case rel => exact ⟨m + 1, by omega, by go_num, HP4⟩
            case measure => simp [intOf]; omega

      have b1 : (x.kind == 1) = false := by rw [beq_eq_false_iff_ne]; exact hk1
      by_cases hk2 : x.kind = 2
      · have b2 : (x.kind == 2) = true := by rw [hk2]; rfl
        have HAS := Lib.hid (HAT.out hk2)
        clear hk1 hk2
        go_upto_region 10 with fail
        go_quiet (fail)
        obtain ⟨W6, hW6⟩ : ∃ W6, W5.drewN nq = W6 := ⟨_, rfl⟩
        have HC6 : Hid (Below W5.heap.size W5 W6) := by show Below ..; rw [← hW6]; exact ⟨rfl, rfl, rfl, Nat.le_refl _, fun k hk => rfl⟩
        rw [hW6]
        clear hW6 c0 c1 c2
        have HP6 := Lib.hid (HP5.out.keep HC6.out)
        obtain ⟨c0, c1, c2⟩ := ndC ((HOC.out.keep HC5.out).keep HC6.out)
        obtain ⟨a1, k1, hv1, q3⟩ := HP6.out.num.form HD.out x.block
        have hl1 := HP6.out.num.look (s := x.block) hz1
        rw [hv1] at hl1
        have Q3 := Lib.hid q3
        obtain ⟨a2, k2, hv2, p3⟩ := HP6.out.num.form HD.out x.on
        have HV2 := Lib.hid hv2
        have P3 := Lib.hid p3
        clear hv1 hv2 p3
        have hA1 := idx_len bl x.block
        have HAL := Lib.hid (fun i => idx_lt (bl := bl) (s := x.block) (i := i))
        have HBL := Lib.hid (fun i => idx_lt (bl := bl) (s := x.on) (i := i))
        have hB1 := idx_len bl x.on
        obtain ⟨A, hA⟩ : ∃ A, idxL bl x.block = A := ⟨_, rfl⟩
        obtain ⟨Bq, hBq⟩ : ∃ Bq, idxL bl x.on = Bq := ⟨_, rfl⟩
        have HBQ := Lib.hid hBq
        rw [hA] at hl1 hA1 HAL HAS Q3
        rw [hBq] at hB1 HBL HAS HV2 P3
        have hmA : A.length ≤ 9223372036854775807 := by omega
        have hmB : Bq.length ≤ 9223372036854775807 := by omega
        clear q3 hA hBq
        go_upto_region 12 with fail
        clear hl1 c0 c1 c2
        go_loopw [44] (fun i w' => ∃ j : Nat, j ≤ A.length ∧ i = .int .i64 j ∧ Hid (∃ N' L', N' ≤ m + j ∧ EdgP w w' g1 g2 bl E N' L' (fun e => (∃ x ∈ es.take m, askE x bl e) ∨ (e.1 ∈ A.take j ∧ e.2 ∈ Bq ∧ e.1 ≠ e.2)))) (fun i _ => A.length - (intOf i).toNat)
        case atStart => exact ⟨0, Nat.zero_le _, rfl, Lib.hid ⟨N, L, hN, HP6.out.cong fun e => ⟨fun h => h.elim id fun h => (by cases h.1), .inl⟩⟩⟩
        case round =>
          obtain ⟨j, hj, rfl, hp2⟩ := hrel
          obtain ⟨N2, L2, hN2, hp2⟩ := hp2.out
          have HP2 := Lib.hid hp2
          clear hp2
          by_cases hltA : j < A.length
          · obtain ⟨ab, ao, rfl, hcc⟩ := Q3.out wr HP2.out.num j hltA
            have hl2 := HP2.out.num.look (s := x.on) hz2
            rw [HV2.out] at hl2
            have hAjl := HAL.out _ (List.getElem_mem hltA)
            have HTJ : Hid (A.take (j + 1) = A.take j ++ [A[j]]) := List.take_succ_eq_append_getElem hltA
            generalize A[j] = aj at *
            obtain ⟨WR, hWR⟩ : ∃ WR, WR = wr := ⟨_, rfl⟩
            subst hWR
            go_upto_region 15 with fail
            clear hcc hl2
            go_loopw [52] (fun i w' => ∃ l : Nat, l ≤ Bq.length ∧ i = .int .i64 l ∧ Hid (∃ N' L', N' ≤ m + j + l ∧ EdgP w w' g1 g2 bl E N' L' (fun e => ((∃ x ∈ es.take m, askE x bl e) ∨ (e.1 ∈ A.take j ∧ e.2 ∈ Bq ∧ e.1 ≠ e.2)) ∨ (e.1 = aj ∧ e.2 ∈ Bq.take l ∧ e.1 ≠ e.2)))) (fun i _ => Bq.length - (intOf i).toNat)
            case atStart => exact ⟨0, Nat.zero_le _, rfl, Lib.hid ⟨N2, L2, hN2, HP2.out.cong fun e => ⟨fun h => h.elim id fun h => (by cases h.2.1), .inl⟩⟩⟩
            case round =>
              obtain ⟨l, hl, rfl, hp3⟩ := hrel
              obtain ⟨N3, L3, hN3, hp3⟩ := hp3.out
              have HP3 := Lib.hid hp3
              clear hp3
              by_cases hltB : l < Bq.length
              · obtain ⟨bb, bo, rfl, hcc⟩ := P3.out wr HP3.out.num l hltB
                have hBll := HBL.out _ (List.getElem_mem hltB)
                have HTL : Hid (Bq.take (l + 1) = Bq.take l ++ [Bq[l]]) := List.take_succ_eq_append_getElem hltB
                generalize Bq[l] = bj at *
                by_cases hne : aj = bj
                · have b1 : ((aj : Int) != (bj : Int)) = false := by rw [hne]; simp
                  have HP4 : Hid (∃ N' L', N' ≤ m + j + (l + 1) ∧ EdgP w wr g1 g2 bl E N' L' (fun e => ((∃ x ∈ es.take m, askE x bl e) ∨ (e.1 ∈ A.take j ∧ e.2 ∈ Bq ∧ e.1 ≠ e.2)) ∨ (e.1 = aj ∧ e.2 ∈ Bq.take (l + 1) ∧ e.1 ≠ e.2))) := Lib.hid ⟨N3, L3, by omega, HP3.out.cong fun e => by
                    rw [HTL.out, List.mem_append, List.mem_singleton]
                    refine or_congr_right ⟨fun h => ⟨h.1, h.2.1.elim id fun q => absurd (h.1.trans (hne.trans q.symm)) h.2.2, h.2.2⟩, fun h => ⟨h.1, .inl h.2.1, h.2.2⟩⟩⟩
                  clear hne
                  go_wp2_with fail
                  go_roundw
                  case rel => exact ⟨l + 1, by omega, by go_num, HP4⟩
                  case measure => simp [intOf]; omega
                · have b1 : ((aj : Int) != (bj : Int)) = true := by rw [bne_iff_ne]; omega
                  obtain ⟨w8, L8, hst, hp8⟩ := HP3.out.lay (P' := fun e => ((∃ x ∈ es.take m, askE x bl e) ∨ (e.1 ∈ A.take j ∧ e.2 ∈ Bq ∧ e.1 ≠ e.2)) ∨ (e.1 = aj ∧ e.2 ∈ Bq.take (l + 1) ∧ e.1 ≠ e.2)) HG1.out HWG.out (by omega) (e := (aj, bj)) (by show aj ≤ _; omega) (by show bj ≤ _; omega) fun f => by
                    rw [HTL.out, List.mem_append, List.mem_singleton]
                    constructor
                    · rintro (h | ⟨h1, h2, h3⟩)
                      · exact .inl (.inl h)
                      · rcases h2 with h2 | h2
                        · exact .inl (.inr ⟨h1, h2, h3⟩)
                        · exact .inr (Prod.ext h1 h2)
                    · rintro ((h | ⟨h1, h2, h3⟩) | rfl)
                      · exact .inl h
                      · exact .inr ⟨h1, .inl h2, h3⟩
                      · exact .inr ⟨rfl, .inr rfl, hne⟩
                  have HP8 := Lib.hid hp8
                  have hst' : (Instr.mapUpdate 140 (.map (some g2)) (.agg #[.int .i64 aj, .int .i64 bj]) (.bool true)).run Tryz.prog wr = .ok () w8 := hst
                  have HP4 : Hid (∃ N' L', N' ≤ m + j + (l + 1) ∧ EdgP w w8 g1 g2 bl E N' L' (fun e => ((∃ x ∈ es.take m, askE x bl e) ∨ (e.1 ∈ A.take j ∧ e.2 ∈ Bq ∧ e.1 ≠ e.2)) ∨ (e.1 = aj ∧ e.2 ∈ Bq.take (l + 1) ∧ e.1 ≠ e.2))) := Lib.hid ⟨N3 + 1, L8, by omega, HP8.out⟩
                  clear hne hst hp8
                  go_wp2_with fail
                  go_roundw
                  case rel => exact ⟨l + 1, by omega, by go_num, HP4⟩
                  case measure => simp [intOf]; omega
              · obtain rfl : l = Bq.length := by omega
                have HP4 : Hid (∃ N' L', N' ≤ m + (j + 1) ∧ EdgP w wr g1 g2 bl E N' L' (fun e => (∃ x ∈ es.take m, askE x bl e) ∨ (e.1 ∈ A.take (j + 1) ∧ e.2 ∈ Bq ∧ e.1 ≠ e.2))) := Lib.hid ⟨N3, L3, by omega, HP3.out.cong fun e => by
                  rw [HTJ.out, List.take_length, List.mem_append, List.mem_singleton, or_assoc]
                  refine or_congr_right ⟨fun h => h.1.elim (fun q => .inl ⟨q, h.2⟩) fun q => .inr ⟨q, h.2⟩, fun h => h.elim (fun q => ⟨.inl q.1, q.2⟩) fun q => ⟨.inr q.1, q.2⟩⟩⟩
                go_wp2_with fail
                go_roundw
                case rel => exact ⟨j + 1, by omega, by go_num, HP4⟩
                case measure => simp [intOf]; omega
          · obtain rfl : j = A.length := by omega
            have HP4 : Hid (∃ N' L', N' ≤ m + 1 ∧ EdgP w wr g1 g2 bl E N' L' (fun e => ∃ x ∈ es.take (m + 1), askE x bl e)) := Lib.hid ⟨N2, L2, by omega, HP2.out.cong fun e => by
              rw [HTA.out, HAS.out, List.take_length]⟩
            go_wp2_with fail
            go_roundw
            case rel => exact ⟨m + 1, by omega, by go_num, HP4⟩
            case measure => simp [intOf]; omega

      have b2 : (x.kind == 2) = false := by rw [beq_eq_false_iff_ne]; exact hk2
      have HP4 : Hid (∃ N' L', N' ≤ m + 1 ∧ EdgP w W5 g1 g2 bl E N' L' (fun e => ∃ x ∈ es.take (m + 1), askE x bl e)) := Lib.hid ⟨N, L, by omega, HP5.out.cong fun e => by
        rw [HTA.out]; exact ⟨fun h => h.elim id fun h => absurd h (HNO.out hk1 hk2 e), .inl⟩⟩
      clear hk1 hk2
      go_wp2_with fail
      go_roundw
      case rel => exact ⟨m + 1, by omega, by go_num, HP4⟩
      case measure => simp [intOf]; omega
    · obtain rfl : m = es.length := by omega
      obtain ⟨Dm, hown, hvd⟩ := HP.out.vm
      have HVD := Lib.hid hvd
      have HLL : Hid (L.length ≤ 100000) := by show _ ≤ _; have := HP.out.ln; omega
      have HMM : Hid (∀ e, e ∈ L ↔ ∃ x ∈ es, askE x bl e) := fun e => by rw [HP.out.mem e, List.take_length]
      have HWR : Hid (w.heap.size ≤ wr.heap.size) := HP.out.bw.size
      go_wp2_with (first | (at_range; refine wpList_range_own _ rfl _ 140 rfl 86 4 keyP Tryz.underlying140 heldR g2 N Dm rfl hown ?_; intro w0 hrg0 hg0 hs0) | go_in)
      go_frame
      have HP0 : Hid (RngP w w0 (wr.heap.size + 1) g2 wr.heap.size N Dm L (Maps.has Dm) (Maps.size Dm) [] (.slice none 0 0)) := by
        refine ⟨hrg0, fun s => ?_, OwnEg_nil _ _, List.nodup_nil, fun e he => (by cases he), HP.out.bw.grown hg0 HP.out.bw.size (fun q hq => by cases hq)⟩
        rw [HVD.out.has, has_mem]
        unfold kvP
        rw [List.map_map, List.mem_map]
        exact ⟨fun ⟨e, he, hs⟩ => ⟨e, he, by simp, hs.symm⟩, fun ⟨e, he, _, hs⟩ => ⟨e, he, hs.symm⟩⟩
      have HS0 : Hid (wr.heap.size + 1 ≤ w0.heap.size) := by show _ ≤ _; omega
      clear hrg0 hg0 hs0 hown hvd
      have HG2R : Hid (g2 < wr.heap.size) := HP.out.vm.lt
      generalize wr.heap.size = r at *
      go_loopw [13] (fun o wq => ∃ left cnt M, Hid (RngP w wq (r + 1) g2 r N Dm L left cnt M o) ∧ Hid (r + 1 ≤ wq.heap.size) ∧ Hid (M.length ≤ L.length)) (fun _ wq => wq.rangeLeft g2 r)
      case atStart => exact ⟨_, _, [], HP0, HS0, Nat.zero_le _⟩
      case round =>
        obtain ⟨left, cnt, M, hp, hz, hml⟩ := hrel
        have hrg := hp.out.rg
        have HRG := Lib.hid hrg
        go_wp2_with (first | (at_next; refine wpList_next_ranges _ rfl _ rfl 86 keyP heldR (fun v : Value => v) (fun v : Value => v) (fun key kl _ => ⟨key, rfl⟩) (fun v y _ => ⟨v, rfl⟩) g2 r N Dm left cnt rfl hrg ?_ ?_) | go_in)
        · intro hc0 hl0
          have HLM : Hid (∀ e, e ∈ M ↔ e ∈ L) := fun e => ⟨hp.out.sub e, fun he => by
            refine Classical.byContradiction fun hn => ?_
            have := (hp.out.lf (pairK e)).2 ⟨e, he, hn, rfl⟩
            rw [hl0] at this; cases this⟩
          have HOM := Lib.hid hp.out.o
          have HND := Lib.hid hp.out.nd
          have HBM := Lib.hid hp.out.bw
          clear hc0 hl0 hrg
          have hform : (u13 = .slice none 0 0 ∧ M = []) ∨ ∃ g n c, u13 = .slice (some ⟨g, 0, none⟩) n c ∧ r + 1 ≤ g := by
            rcases HOM.out.2 with ⟨e, h0⟩ | ⟨g, cap, cur, e, hg, _⟩
            · exact .inl ⟨e, List.eq_nil_of_length_eq_zero h0⟩
            · exact .inr ⟨_, _, _, e, hg⟩
          rcases hform with ⟨rfl, rfl⟩ | ⟨g, n, c, rfl, hg⟩
          · go_wp2_with fail
            refine (sortE_nil 72 _).mono ?_
            rintro e w9 ⟨rfl, rfl⟩
            have HEE : Hid (edgF es bl bl.length = []) := by
              show _ = _
              exact (edgF_of (E := []) .nil fun e => ⟨fun h => (by cases h), fun h => by
                have := (HLM.out e).2 ((HMM.out e).2 h); cases this⟩).symm
            go_wp2_with fail
            go_ret
            exact ⟨_, rfl, by rw [HBLQ.out, HEE.out]; exact SEg_nil _, HBM.out⟩
          · go_wp2_with fail
            refine (sortE_any _ (r + 1) g n c M HND.out HOM.out (by have := hml.out; have := HLL.out; omega)).mono ?_
            rintro e w9 ⟨rfl, hgr, L', hperm, hasc, hsg⟩
            have HSG := Lib.hid hsg
            have HEE : Hid (edgF es bl bl.length = L') := by
              show _ = _
              exact (edgF_of hasc fun e => by rw [hperm.mem_iff, HLM.out, HMM.out]).symm
            have HB9 : Hid (Below w.heap.size w w9) := HBM.out.grown hgr HBM.out.size (fun q hq => by have := Option.some.inj hq; have := HWR.out; omega)
            clear hgr hperm hasc hsg
            go_wp2_with fail
            go_ret
            exact ⟨_, rfl, by rw [HBLQ.out, HEE.out]; exact HSG.out, HB9.out⟩
        · intro x c kl y ps w1 cnt1 hkey hlk hR hat hrg1 hlt1 hg1 hs1 hen
          obtain ⟨s, rfl⟩ := key_str hkey
          obtain ⟨e, heL, heM, hse⟩ := (hp.out.lf s).1 hlk
          subst hse
          have hsm := HP.out.sm e heL
          have hkey' : keyOf Tryz.prog 86 x = some (.string (pairK e)) := hkey
          have hx : x = .agg #[.int .i64 e.1, .int .i64 e.2] := keyP.inj hkey' (key_pair hsm.1 hsm.2)
          subst hx
          have hRG1 := hrg1
          have HL1 : Hid (M.length + ([e] : Edg).length ≤ 1000000) := by show _ ≤ _; have := hml.out; have := HLL.out; simp only [List.length_singleton]; omega
          have hsz1 : r + 1 ≤ w1.heap.size := by have := hz.out; omega
          have HR1 : Hid (RngP w w1 (r + 1) g2 r N Dm L (fun z => left z && !z.sameKey (.string (pairK e))) cnt1 (M ++ [e]) u13 → True) := fun _ => trivial
          have HOM1 : Hid (OwnEg w1 (r + 1) u13 M) := World.ownsRow.kept hp.out.o hg1 (.inr fun e2 => by have := (World.ownsRow.lt hp.out.o r e2).1; omega)
          have HB1' : Hid (Below w.heap.size w w1) := hp.out.bw.grown hg1 hp.out.bw.size (fun q hq => by have := Option.some.inj hq; have := HWR.out; omega)
          have HLF : Hid (∀ s, (left (.string s) && !(Lit.string s).sameKey (.string (pairK e))) = true ↔ ∃ f ∈ L, f ∉ M ++ [e] ∧ s = pairK f) := fun s => by
            rw [Bool.and_eq_true, hp.out.lf s, Bool.not_eq_true']
            have hsk : (Lit.string s).sameKey (.string (pairK e)) = decide (s = pairK e) := by
              show (s == pairK e) = _
              rw [Bool.eq_iff_iff]; simp
            rw [hsk, decide_eq_false_iff_not]
            constructor
            · rintro ⟨⟨f, hf, hfm, rfl⟩, hne⟩
              exact ⟨f, hf, fun hm => (List.mem_append.1 hm).elim hfm fun hm => hne (by rw [List.mem_singleton.1 hm]), rfl⟩
            · rintro ⟨f, hf, hfm, rfl⟩
              refine ⟨⟨f, hf, fun hm => hfm (List.mem_append_left _ hm), rfl⟩, fun hk => hfm ?_⟩
              have s1 := HP.out.sm f hf
              rw [pair_inj s1.1 s1.2 hsm.1 hsm.2 hk]; simp
          have HML : Hid ((M ++ [e]).length ≤ L.length) := by
            show _ ≤ _
            have key : ∀ (xs ys : Edg), xs.Nodup → (∀ x ∈ xs, x ∈ ys) → xs.length ≤ ys.length := by
              intro xs
              induction xs with
              | nil => intro ys _ _; simp
              | cons x xs ih =>
                intro ys hn hs
                rw [List.nodup_cons] at hn
                have hx := hs x (List.mem_cons_self ..)
                have := ih (ys.erase x) hn.2 fun y hy => (List.mem_erase_of_ne (fun e => hn.1 (by rw [← e]; exact hy))).2 (hs y (List.mem_cons_of_mem _ hy))
                rw [List.length_erase_of_mem hx] at this
                have hp : 0 < ys.length := List.length_pos_of_mem hx
                simp only [List.length_cons]; omega
            refine key _ _ (List.nodup_append.2 ⟨hp.out.nd, by simp, fun x hx y hy => by simp at hy; subst hy; intro e; subst e; exact heM hx⟩) fun x hx => ?_
            rcases List.mem_append.1 hx with hx | hx
            · exact hp.out.sub x hx
            · rw [List.mem_singleton.1 hx]; exact heL
          have HCT1 := Lib.hid hlt1
          obtain ⟨W2, HO2, HC2, HW2, HZ2⟩ := copyEg w1 e
          have HRG1 := Lib.hid hrg1
          have HNDM : Hid ((M ++ [e]).Nodup) := List.nodup_append.2 ⟨hp.out.nd, by simp, fun x hx y hy => by simp at hy; subst hy; intro e; subst e; exact heM hx⟩
          have HSUB : Hid (∀ x ∈ M ++ [e], x ∈ L) := fun x hx => by
            rcases List.mem_append.1 hx with hx | hx
            · exact hp.out.sub x hx
            · rw [List.mem_singleton.1 hx]; exact heL
          clear hkey hkey' hlk hR hat hrg1 hRG1 hrg hg1 hs1 heL heM hsm hlt1
          go_upto_region 26 with fail
          rw [HW2.out]
          clear HW2 hen
          obtain ⟨c0, c1⟩ := egC HO2.out
          rw [Nat.zero_add] at c1
          have HOA := Lib.hid ((HOM1.out.below HC2.out).alloc (.cells #[.int .i64 e.1, .int .i64 e.2] 86))
          have HSA : Hid (SEg (W2.alloc (.cells #[.int .i64 e.1, .int .i64 e.2] 86)) (.slice (some ⟨W2.heap.size, 0, none⟩) 1 1) [e]) := sEg_one (egC (ObjAt.new W2 (egA e) 86))
          have hzw : r + 1 ≤ W2.heap.size := by have := HC2.out.size; omega
          go_wp2_with (at_builtin; refine wpList_app_Eg rfl (.tmp 72) (.tmp 74) rfl (r + 1) _ M [e] rfl HOA.out ⟨W2.heap.size, 0, none⟩ 1 1 rfl HSA.out HL1.out ?c4 ?_)
          case c4 => first | omega | (simp; omega)
          intro v9 w9 ho9 hg9 _
          have HB9 : Hid (Below w.heap.size w w9) := ((ext_trans HB1'.out HC2.out).alloc (ext_trans HB1'.out HC2.out).size _).grown hg9 (by have := (ext_trans HB1'.out HC2.out).size; simp; omega) (fun q hq => by have := (World.ownsRow.lt HOM1.out q hq).1; have := HWR.out; omega)
          have HRG9 : Hid (w9.ranges Tryz.prog 86 heldR g2 r N Dm (fun z => left z && !z.sameKey (.string (pairK e))) cnt1) := by
            have a1 := HRG1.out.kept (w' := W2) (row := none) ⟨HC2.out.os, HC2.out.tape, HC2.out.output, HC2.out.size, fun k hk _ => HC2.out.block k hk⟩ (by simp) (by simp)
            exact (a1.alloc _).kept hg9 (fun e2 => by have := (World.ownsRow.lt HOM1.out g2 e2.symm).1; have := HG2R.out; omega) (fun e2 => by have := (World.ownsRow.lt HOM1.out r e2.symm).1; omega)
          have HP9 : Hid (RngP w w9 (r + 1) g2 r N Dm L (fun z => left z && !z.sameKey (.string (pairK e))) cnt1 (M ++ [e]) v9) := ⟨HRG9.out, HLF.out, ho9, HNDM.out, HSUB.out, HB9.out⟩
          have HZ9 : Hid (r + 1 ≤ w9.heap.size) := by show _ ≤ _; have := hg9.size; simp at this; omega
          clear ho9 hg9 HOA HSA c0 c1
          go_wp2_with fail
          go_roundw
          case rel => exact ⟨_, _, M ++ [e], HP9, HZ9, HML⟩
          case measure => rw [HRG9.out.left_eq, HRG.out.left_eq]; have := HCT1.out; omega
end Go.Proofs.YtfpnjbomlmhlpaaGreat

/- Contract: Order of need. -/
namespace Go.Proofs.YtfpnjbomlmhlpaaGreat
open Go.RowKit

theorem rowE_len (N : List Nd) (b : List (List UInt8)) (i m : Nat) : (rowE N b i m).length ≤ m := by
  unfold rowE
  rw [List.length_map]
  exact Nat.le_trans (List.length_filter_le _ _) (by rw [List.length_range]; exact Nat.le_refl _)
theorem edgF_len (N : List Nd) (b : List (List UInt8)) : ∀ m, (edgF N b m).length ≤ m * b.length
  | 0 => by simp [edgF]
  | m + 1 => by
    rw [edgF_succ, List.length_append, Nat.add_mul]
    have := edgF_len N b m
    have := rowE_len N b m b.length
    omega
theorem edgF_ok (N : List Nd) (b : List (List UInt8)) : EdgOK b.length (edgF N b b.length) := fun e he => by
  obtain ⟨h1, h2, h3, _⟩ := mem_edgF.1 he
  exact ⟨h1, h2, h3⟩
theorem edgF_small {N : List Nd} {b : List (List UInt8)} (h : b.length ≤ 256) : (edgF N b b.length).length ≤ 100000 := by
  have h1 := edgF_len N b b.length
  have : b.length * b.length ≤ 256 * 256 := Nat.mul_le_mul h h
  omega
def namesT (b : List (List UInt8)) (T : List Nat) : List (List UInt8) := T.map (bkI b)
theorem gi_natI {T : List Nat} {k : Nat} (h : k < T.length) : gi (natI T) k = (T[k] : Nat) := by unfold natI gi; simp [h]
theorem zi_bk {b : List (List UInt8)} {v : Nat} (h : v < b.length) : zi (b.map bs) v = bs (bkI b v) := by
  rw [zi_bs h]; unfold bkI; rw [List.getD_eq_getElem?_getD, List.getElem?_eq_getElem h]; rfl
set_option maxRecDepth 100000 in
set_option maxHeartbeats 2000000 in
theorem nOrder_any (D : Des) (ns : List Nod) (es : List Nd) (w : World) (h : DesOK w D ns es) (hn : ns.length ≤ 256) (he : es.length ≤ 10000) (hd : (blocksF ns).Nodup) (hs : ∀ x ∈ ns, x.id.length ≤ maxLen) (hs2 : ∀ x ∈ es, x.block.length ≤ maxLen ∧ x.on.length ≤ maxLen) (bl : List (List UInt8)) (hbl : blocksF ns = bl) (E : Edg) (hE : edgF es bl bl.length = E) :
    Calls Tryz.prog 8 #[.agg (desA D)] w fun e w' => ∃ v, e = .returned (.tuple #[v, .int .i64 (if (topo bl.length E bl.length).length = bl.length then 0 else 20)]) ∧ ((topo bl.length E bl.length).length = bl.length → SZ w' v ((namesT bl (topo bl.length E bl.length)).map bs)) ∧ Below w.heap.size w w' := by
  have HBK := Lib.hid (fun w' (hb : Below w.heap.size w w') => Blocks_any D ns w' (h.n.keep hb) (by omega))
  have HEG := Lib.hid (fun w' (hb : Below w.heap.size w w') => nEdges_any D ns es w' (h.keep hb) hn he hd hs hs2)
  have hlb := blocks_le ns
  rw [hbl] at hlb HBK
  rw [hbl, hE] at HEG
  have hok : EdgOK bl.length E := by rw [← hE]; exact edgF_ok _ _
  have hsm : E.length ≤ 100000 := by rw [← hE]; exact edgF_small (by omega)
  have HOK := Lib.hid hok
  have HTW := Lib.hid (topo_w bl.length E bl.length)
  clear h hs hs2 hd hok hE hbl
  obtain ⟨W0, HO0, HB0, HW0, HZ0⟩ := boxD w D
  unfold desA at HBK HEG ⊢
  go_enter Tryz.func8, Tryz.ntmps8
  go_upto_region 1 with fail
  rw [HW0.out]
  clear HW0
  obtain ⟨c0, c1, c2, c3, c4, c5⟩ := desC HO0.out
  go_wp2_with fail
  refine (HBK.out W0 HB0.out).mono ?_
  rintro e w1 ⟨bv, rfl, hbs, h1'⟩
  clear c0 c1 c2 c3 c4 c5
  have HB1 := Lib.hid (ext_trans HB0.out h1')
  obtain ⟨c0, c1, c2, c3, c4, c5⟩ := desC (HO0.out.keep h1')
  have HBS := Lib.hid hbs
  obtain ⟨ba, bc, rfl, b1, b2, b3⟩ := hbs
  rw [List.length_map] at b1
  rw [List.length_map] at HBS
  rw [List.length_map]
  have B3 := Lib.hid b3
  clear h1' b3
  go_wp2_with fail
  refine (HEG.out w1 HB1.out).mono ?_
  rintro e w2 ⟨ev, rfl, hev, h2'⟩
  clear c0 c1 c2 c3 c4 c5
  have HB2 := Lib.hid (ext_trans HB1.out h2')
  have HB12 := Lib.hid h2'
  have HEV := Lib.hid hev
  clear h2' hev
  go_wp2_with fail
  refine (Order_any bl.length ev E w2 HEV.out HOK.out (by omega) hsm).mono ?_
  rintro e w3 ⟨ov, rfl, hov, h3'⟩
  have HB3 := Lib.hid (ext_trans HB2.out h3')
  have HB13 := Lib.hid (ext_trans HB12.out h3')
  clear h3'
  by_cases hf : (topo bl.length E bl.length).length = bl.length
  rotate_left
  · rw [if_neg hf]
    have HF := Lib.hid hf
    clear hf hov
    go_wp2_with fail
    go_ret2
    refine ⟨⟨.slice none 0 0, ?_⟩, HB3.out⟩
    first | rfl | (rw [if_neg HF.out]; rfl)
  · rw [if_pos hf]
    have HF := Lib.hid hf
    have HOV := Lib.hid (hov hf)
    obtain ⟨T, hT⟩ : ∃ T, topo bl.length E bl.length = T := ⟨_, rfl⟩
    have HT := Lib.hid hT
    rw [hT] at HOV HTW
    obtain ⟨oa, oc, rfl, o1, o2, o3⟩ := HOV.out
    rw [natI_len] at o1 o3
    rw [natI_len]
    have O3 := Lib.hid o3
    have hTl : T.length ≤ 256 := by rw [← hT]; omega
    have hmT : T.length ≤ 9223372036854775807 := by omega
    clear hf hov o3 hT
    go_wp2_with fail
    go_loopw [7, 25] (fun o i wr => ∃ k : Nat, k ≤ T.length ∧ i = .int .i64 k ∧ Hid (Below w3.heap.size w3 wr) ∧ Hid (OwnZ wr w3.heap.size o ((namesT bl (T.take k)).map bs))) (fun _ i _ => T.length - (intOf i).toNat)
    case atStart => exact ⟨0, Nat.zero_le _, rfl, Below.refl _ _, OwnZ_nil _ _⟩
    case round =>
      obtain ⟨k, hk, rfl, hb, ho⟩ := hrel
      by_cases hlt : k < T.length
      · obtain ⟨ab, ao, rfl, hc⟩ := O3.out k hlt
        have hcc := cell_keep hb.out hc
        try dsimp only at hcc
        rw [gi_natI hlt] at hcc
        have hvl := HTW.out.lt _ (List.getElem_mem hlt)
        have HTT : Hid (T.take (k + 1) = T.take k ++ [T[k]]) := List.take_succ_eq_append_getElem hlt
        generalize T[k] = v at *
        obtain ⟨sb, so, rfl, hsc⟩ := B3.out v (by rw [List.length_map]; exact hvl)
        have hs2 := cell_keep (ext_trans HB13.out hb.out) hsc
        try dsimp only at hs2
        rw [zi_bk hvl] at hs2
        have hsw := hb.out.size
        have hlt' : ∀ g, u7.ownBlock = some g → w3.heap.size ≤ g := fun g hg => (World.ownsRow.lt ho.out g hg).1
        have HLN : Hid (((namesT bl (T.take k)).map bs).length ≤ 2000000) := by show _ ≤ _; unfold namesT; rw [List.length_map, List.length_map, List.length_take]; omega
        have i1 : (v : Int) < bl.length := by omega
        have i2 : (0 : Int) ≤ v := by omega
        clear hc hsc
        go_wp2_with (at_builtin; refine wpList_app_str rfl (.tmp 29) (.tmp 34) rfl w3.heap.size u7 ((namesT bl (T.take k)).map bs) rfl (OwnZ_alloc ho.out _) wr.heap.size 1 (bs (bkI bl v)) rfl (lit_str _ _) HLN.out (by simp; omega) ?_)
        intro va wa hoa hga _
        have hba : Below w3.heap.size w3 wa := (hb.out.alloc hsw _).grown hga (by simp; omega) hlt'
        have HO3 : Hid (OwnZ wa w3.heap.size va ((namesT bl (T.take (k + 1))).map bs)) := by show OwnZ ..; rw [HTT.out]; unfold namesT; rw [List.map_append, List.map_append]; exact hoa
        have HBA := Lib.hid hba
        clear hoa hba hga hcc hs2
        go_wp2_with fail
        go_roundw
        case rel => exact ⟨k + 1, by omega, by go_num, HBA, HO3⟩
        case measure => simp [intOf]; omega
      · obtain rfl : k = T.length := by omega
        have HS : Hid (SZ wr u7 ((namesT bl T).map bs)) := by have := ho.out.sl; rw [List.take_length] at this; exact this
        have HBE := Lib.hid (ext_trans HB3.out hb.out)
        go_wp2_with fail
        go_ret2
        exact ⟨_, by first | rfl | (rw [if_pos HF.out]; rfl), by first | (rw [HT.out]; exact HS.out) | (intro _; rw [HT.out]; exact HS.out), HBE.out⟩
end Go.Proofs.YtfpnjbomlmhlpaaGreat

/- Contracts: slices.Index, slices.Contains; ascending of sched. -/
namespace Go.Proofs.YtfpnjbomlmhlpaaGreat
open Go.RowKit

def idxS (l : List (List UInt8)) (s : List UInt8) : Int := if s ∈ l then (atB l s : Nat) else -1
theorem atB_hit {l : List (List UInt8)} {s : List UInt8} {k : Nat} (hk : k < l.length) (h : ∀ j (hj : j < k), l[j] ≠ s) (he : l[k] = s) : atB l s = k := by
  unfold atB
  rw [List.findIdx_eq hk]
  exact ⟨by simp [he], fun j hj => by simp [h j hj]⟩
theorem idxS_hit {l : List (List UInt8)} {s : List UInt8} {k : Nat} (hk : k < l.length) (h : ∀ j (hj : j < k), l[j] ≠ s) (he : l[k] = s) : idxS l s = k := by
  unfold idxS
  rw [if_pos (by rw [← he]; exact List.getElem_mem hk), atB_hit hk h he]
theorem idxS_miss {l : List (List UInt8)} {s : List UInt8} (h : ∀ j (hj : j < l.length), l[j] ≠ s) : idxS l s = -1 := by
  unfold idxS
  rw [if_neg fun hm => by
    obtain ⟨j, hj, e⟩ := List.mem_iff_getElem.1 hm
    exact h j hj e]
set_option maxRecDepth 100000 in
theorem ixS_any (v : Value) (l : List (List UInt8)) (s : List UInt8) (w : World) (h : SZ w v (l.map bs)) : Calls Tryz.prog 66 #[v, .string (bs s)] w (Ret w (.int .i64 (idxS l s))) := by
  obtain ⟨a, cap, rfl, h1, h2, h3⟩ := h
  rw [List.length_map] at h1 h3
  rw [List.length_map]
  have H3 := Lib.hid h3; clear h3
  have hm : l.length ≤ 9223372036854775807 := by unfold maxLen at h2; omega
  go_enter Tryz.func66, Tryz.ntmps66
  go_wp2_with fail
  go_loopw [8] (fun i wr => ∃ k : Nat, k ≤ l.length ∧ i = .int .i64 k ∧ Hid (Below w.heap.size w wr) ∧ Hid (∀ j (hj : j < l.length), j < k → l[j] ≠ s)) (fun i _ => l.length - (intOf i).toNat)
  case atStart => exact ⟨0, Nat.zero_le _, rfl, Lib.hid (Below.refl _ _), Lib.hid fun j hj h0 => by omega⟩
  case round =>
    obtain ⟨k, hk, rfl, hb, hj⟩ := hrel
    by_cases hlt : k < l.length
    · obtain ⟨b, off, rfl, hc⟩ := H3.out k hlt
      have c0 := cell_keep hb.out hc
      try dsimp only at c0
      rw [zi_bs hlt] at c0
      have HE := Lib.hid (bs_eq s l[k])
      clear hc
      obtain ⟨ex, hex⟩ : ∃ ex, ((bs s).toList == (bs l[k]).toList) = ex := ⟨_, rfl⟩
      have HX := Lib.hid hex
      cases ex
      · have HJ : Hid (∀ j (hj : j < l.length), j < k + 1 → l[j] ≠ s) := fun j hjl hjk => by
          by_cases e : j = k
          · subst e
            have := HE.out.symm.trans hex
            rw [beq_eq_false_iff_ne] at this
            exact Ne.symm this
          · exact hj.out j hjl (by omega)
        go_wp2_with fail
        go_roundw
        case rel => exact ⟨k + 1, by omega, by go_num, hb, HJ⟩
        case measure => simp [intOf]; omega
      · have HV : Hid (idxS l s = k) := idxS_hit hlt (fun j hjk => hj.out j (by omega) hjk) (by have := HE.out.symm.trans hex; rw [beq_iff_eq] at this; exact this.symm)
        go_wp2_with fail
        go_ret
        exact ⟨ret_int HV.out.symm, hb.out⟩
    · have HV : Hid (idxS l s = -1) := idxS_miss fun j hjl => hj.out j hjl (by omega)
      go_wp2_with fail
      go_ret
      exact ⟨ret_int HV.out.symm, hb.out⟩
theorem idxS_nonneg (l : List (List UInt8)) (s : List UInt8) : decide ((0 : Int) ≤ idxS l s) = l.contains s := by
  unfold idxS
  rw [Bool.eq_iff_iff, decide_eq_true_eq, List.contains_iff_mem]
  split
  · rename_i h; exact ⟨fun _ => h, fun _ => by omega⟩
  · rename_i h; exact ⟨fun h2 => by omega, fun h2 => absurd h2 h⟩
theorem ixS2_any (v : Value) (l : List (List UInt8)) (s : List UInt8) (w : World) (h : SZ w v (l.map bs)) : Calls Tryz.prog 66 #[v, .string (bs s)] w fun e w' => ∃ q : Int, e = .returned (.int .i64 q) ∧ (0 ≤ q ↔ s ∈ l) ∧ Below w.heap.size w w' :=
  (ixS_any v l s w h).mono fun e w' he => ⟨idxS l s, he.1, by
    have := idxS_nonneg l s
    rw [Bool.eq_iff_iff, decide_eq_true_eq, List.contains_iff_mem] at this
    exact this, he.2⟩
set_option maxRecDepth 100000 in
theorem cnS_any (v : Value) (l : List (List UInt8)) (s : List UInt8) (w : World) (h : SZ w v (l.map bs)) : Calls Tryz.prog 78 #[v, .string (bs s)] w (Ret w (.bool (l.contains s))) := by
  have HI := Lib.hid (ixS2_any v l s w h)
  obtain ⟨a, n, cap, rfl⟩ : ∃ a n cap, v = .slice a n cap := by obtain ⟨a, cap, rfl, _⟩ := h; exact ⟨_, _, _, rfl⟩
  clear h
  go_enter Tryz.func78, Tryz.ntmps78
  go_wp2_with fail
  refine HI.out.mono ?_
  rintro e w1 ⟨q, rfl, hq, h1⟩
  have HB := Lib.hid h1
  have HN : Hid (decide ((0 : Int) ≤ q) = l.contains s) := by show _ = _; rw [Bool.eq_iff_iff, decide_eq_true_eq, List.contains_iff_mem]; exact hq
  clear h1 HI hq
  go_wp2_with fail
  go_ret
  exact ⟨ret_bool HN.out, HB.out⟩
/-! numbers -/
def idxN (l : List Nat) (s : Nat) : Int := if s ∈ l then (l.idxOf s : Nat) else -1
set_option maxRecDepth 100000 in
theorem ixI_any (v : Value) (l : List Nat) (s : Nat) (w : World) (h : SI w v (natI l)) : Calls Tryz.prog 102 #[v, .int .i64 s] w fun e w' => ∃ q : Int, e = .returned (.int .i64 q) ∧ (0 ≤ q ↔ s ∈ l) ∧ Below w.heap.size w w' := by
  obtain ⟨a, cap, rfl, h1, h2, h3⟩ := h
  rw [natI_len] at h1 h3
  rw [natI_len]
  have H3 := Lib.hid h3; clear h3
  have hm : l.length ≤ 9223372036854775807 := by unfold maxLen at h2; omega
  go_enter Tryz.func102, Tryz.ntmps102
  go_wp2_with fail
  go_loopw [8] (fun i wr => ∃ k : Nat, k ≤ l.length ∧ i = .int .i64 k ∧ Hid (Below w.heap.size w wr) ∧ Hid (∀ j (hj : j < l.length), j < k → l[j] ≠ s)) (fun i _ => l.length - (intOf i).toNat)
  case atStart => exact ⟨0, Nat.zero_le _, rfl, Lib.hid (Below.refl _ _), Lib.hid fun j hj h0 => by omega⟩
  case round =>
    obtain ⟨k, hk, rfl, hb, hj⟩ := hrel
    by_cases hlt : k < l.length
    · obtain ⟨b, off, rfl, hc⟩ := H3.out k hlt
      have c0 := cell_keep hb.out hc
      try dsimp only at c0
      rw [gi_natI hlt] at c0
      clear hc
      by_cases he : l[k] = s
      · have b1 : ((s : Int) == ((l[k] : Nat) : Int)) = true := by rw [he]; simp
        have HV : Hid (s ∈ l) := by rw [← he]; exact List.getElem_mem hlt
        clear he
        go_wp2_with fail
        go_ret
        exact ⟨_, rfl, ⟨fun _ => HV.out, fun _ => by omega⟩, hb.out⟩
      · have b1 : ((s : Int) == ((l[k] : Nat) : Int)) = false := by rw [beq_eq_false_iff_ne]; omega
        have HJ : Hid (∀ j (hj : j < l.length), j < k + 1 → l[j] ≠ s) := fun j hjl hjk => by
          by_cases e : j = k
          · subst e; exact he
          · exact hj.out j hjl (by omega)
        clear he
        go_wp2_with fail
        go_roundw
        case rel => exact ⟨k + 1, by omega, by go_num, hb, HJ⟩
        case measure => simp [intOf]; omega
    · have HV : Hid (s ∉ l) := fun hm => by
        obtain ⟨j, hjl, e⟩ := List.mem_iff_getElem.1 hm
        exact hj.out j hjl (by omega) e
      go_wp2_with fail
      go_ret
      exact ⟨-1, rfl, ⟨fun h => absurd h (by decide), fun h => absurd h HV.out⟩, hb.out⟩
set_option maxRecDepth 100000 in
theorem cnI_any (v : Value) (l : List Nat) (s : Nat) (w : World) (h : SI w v (natI l)) : Calls Tryz.prog 68 #[v, .int .i64 s] w (Ret w (.bool (l.contains s))) := by
  have HI := Lib.hid (ixI_any v l s w h)
  obtain ⟨a, cap, rfl, _⟩ := h
  go_enter Tryz.func68, Tryz.ntmps68
  go_wp2_with fail
  refine HI.out.mono ?_
  rintro e w1 ⟨q, rfl, hq, h1⟩
  have HB := Lib.hid h1
  have HN : Hid (decide ((0 : Int) ≤ q) = l.contains s) := by show _ = _; rw [Bool.eq_iff_iff, decide_eq_true_eq, List.contains_iff_mem]; exact hq
  clear h1 HI hq
  go_wp2_with fail
  go_ret
  exact ⟨ret_bool HN.out, HB.out⟩
end Go.Proofs.YtfpnjbomlmhlpaaGreat

/- Contracts: ascending, CheckJobs of sched, for jobs that are right. -/
namespace Go.Proofs.YtfpnjbomlmhlpaaGreat
open Go.RowKit

def AscS (l : List (List UInt8)) : Prop := ∀ j (h : j + 1 < l.length), Op.bytesLess l[j] l[j + 1] = true
set_option maxRecDepth 100000 in
theorem asc_any (v : Value) (l : List (List UInt8)) (w : World) (h : SZ w v (l.map bs)) (ha : AscS l) : Calls Tryz.prog 100 #[v] w (Ret w (.bool true)) := by
  obtain ⟨a, cap, rfl, h1, h2, h3⟩ := h
  rw [List.length_map] at h1 h3
  rw [List.length_map]
  have H3 := Lib.hid h3; have HA := Lib.hid ha
  clear h3 ha
  have hm : l.length ≤ 9223372036854775807 := by unfold maxLen at h2; omega
  unfold maxLen at h2
  go_enter Tryz.func100, Tryz.ntmps100
  go_wp2_with fail
  go_loopw [3] (fun i wr => ∃ k : Nat, i = .int .i64 ((k : Int) + 1) ∧ k ≤ l.length ∧ Hid (Below w.heap.size w wr)) (fun i _ => l.length + 1 - (intOf i).toNat)
  case atStart => exact ⟨0, rfl, Nat.zero_le _, Below.refl _ _⟩
  case round =>
    obtain ⟨k, rfl, hk, hb⟩ := hrel
    by_cases hlt : k + 1 < l.length
    · obtain ⟨b, off, rfl, hc⟩ := H3.out k (by omega)
      obtain ⟨b', off', ha', hc'⟩ := H3.out (k + 1) hlt
      have ha' := Option.some.inj ha'
      simp only [Addr.mk.injEq] at ha'
      obtain ⟨rfl, rfl, _⟩ := ha'
      have c0 := cell_keep hb.out hc
      have c1 := cell_keep hb.out hc'
      try dsimp only at c0 c1
      rw [zi_bs (by omega)] at c0
      rw [zi_bs hlt] at c1
      have hl := HA.out k hlt
      have hl2 : Op.bytesLess (bs l[k]).toList (bs l[k + 1]).toList = true := by rw [bs_toList, bs_toList]; exact hl
      have i1 : ((k : Int) + 1) < l.length := by omega
      have w4 : wrap64 (k : Int) = (k : Int) := IntWalk.wrap64_in _ (by omega)
      clear hc hc' hl
      go_upto_region 4 with fail
      go_quiet (fail)
      obtain ⟨W5, hW5⟩ : ∃ W5, wr.drewN nq = W5 := ⟨_, rfl⟩
      have HB5 : Hid (Below w.heap.size w W5) := by show Below ..; rw [← hW5]; exact ext_trans hb.out ⟨rfl, rfl, rfl, Nat.le_refl _, fun k hk => rfl⟩
      rw [hW5]
      clear hW5 c0 c1 hl2
      go_wp2_with fail
      go_roundw
      case rel => exact ⟨k + 1, by go_num, by omega, HB5⟩
      case measure => simp [intOf]; omega
    · have i1 : ¬ ((k : Int) + 1) < l.length := by omega
      go_wp2_with fail
      go_ret
      exact ⟨rfl, hb.out⟩
theorem less_asym : ∀ {a b : List UInt8}, Op.bytesLess a b = true → Op.bytesLess b a = false ∧ (b == a) = false
  | [], [], h => by cases h
  | [], _ :: _, _ => ⟨rfl, rfl⟩
  | _ :: _, [], h => by cases h
  | x :: a, y :: b, h => by
    have e1 : Op.bytesLess (x :: a) (y :: b) = (decide (x < y) || (x == y && Op.bytesLess a b)) := rfl
    have e2 : Op.bytesLess (y :: b) (x :: a) = (decide (y < x) || (y == x && Op.bytesLess b a)) := rfl
    rw [e1, Bool.or_eq_true, Bool.and_eq_true, decide_eq_true_eq, beq_iff_eq] at h
    rw [e2]
    rcases h with h | ⟨rfl, h⟩
    · have h1 : ¬ y < x := fun h2 => absurd (UInt8.lt_iff_toNat_lt.1 h) (by have := UInt8.lt_iff_toNat_lt.1 h2; omega)
      have h2 : (y == x) = false := by
        rw [beq_eq_false_iff_ne]; intro e; subst e
        have := UInt8.lt_iff_toNat_lt.1 h; omega
      refine ⟨by rw [decide_eq_false h1, h2]; rfl, ?_⟩
      show (y == x && b == a) = false
      rw [h2]; rfl
    · obtain ⟨i1, i2⟩ := less_asym h
      have h1 : ¬ x < x := fun h2 => by have := UInt8.lt_iff_toNat_lt.1 h2; omega
      refine ⟨by rw [decide_eq_false h1, i1]; simp, ?_⟩
      show (x == x && b == a) = false
      rw [i2]; simp
/-- jobs are right -/
structure JobsR (J : List Hst) (bl : List (List UInt8)) : Prop where
  few : J.length ≤ 64
  blk : ∀ j ∈ J, j.block ∈ bl
  asc : ∀ i (h : i + 1 < J.length), Op.bytesLess (hsi J i).block (hsi J (i + 1)).block = true
  hr : ∀ j ∈ J, 1 ≤ j.hours ∧ j.hours ≤ 10000
  cn : ∀ j ∈ J, 1 ≤ j.cranes.length ∧ j.cranes.length ≤ 8
  ca : ∀ j ∈ J, AscS j.cranes
def hsA (x : MH) : Array Value := #[.string (bs x.h.block), .int .i64 x.h.hours, x.cv]
theorem hsC {w : World} {b : Nat} {x : MH} {e : TypeId} (h : ObjAt w b (hsA x) e) : HsAt w b 0 x := ⟨h.cell 0, h.cell 1, h.cell 2⟩
theorem copyH (w : World) (x : MH) {a : Option Addr} {n c : Nat} (hav : x.cv = .slice a n c) : ∃ W1, Hid (ObjAt W1 w.heap.size (hsA x) 59) ∧ Hid (Below w.heap.size w W1) ∧ Hid (w.alloc (.cells #[.string (bs x.h.block), .int .i64 x.h.hours, .slice a n c] 59) = W1) ∧ Hid (w.heap.size < W1.heap.size) :=
  ⟨w.alloc (.cells (hsA x) 59), ObjAt.new _ _ _, (Below.refl _ _).alloc (Nat.le_refl _) _, by show _ = _; unfold hsA; rw [hav], by show _ < _; simp⟩
theorem Crn.form {w : World} {l : List MH} (h : Crn w l) {k : Nat} (hk : k < l.length) : ∃ a c, (mhi l k).cv = .slice a (mhi l k).h.cranes.length c ∧ SZ w (.slice a (mhi l k).h.cranes.length c) ((mhi l k).h.cranes.map bs) := by
  have h1 := h _ (mhi_mem hk)
  obtain ⟨a, c, e, _⟩ := id h1
  rw [List.length_map] at e
  rw [e] at h1
  exact ⟨a, c, e, h1⟩
set_option maxRecDepth 100000 in
set_option maxHeartbeats 2000000 in
theorem CheckJobs_any (D : Des) (ns : List Nod) (es : List Nd) (jv : Value) (l : List MH) (w : World) (h : DesOK w D ns es) (hn : ns.length ≤ 256) (he : es.length ≤ 10000) (hd : (blocksF ns).Nodup) (hs : ∀ x ∈ ns, x.id.length ≤ maxLen) (hs2 : ∀ x ∈ es, x.block.length ≤ maxLen ∧ x.on.length ≤ maxLen) (bl : List (List UInt8)) (hbl : blocksF ns = bl) (E : Edg) (hE : edgF es bl bl.length = E)
    (hj : SHs w jv l) (hc : Crn w l) (hJ : JobsR (hl l) bl) (ht : (topo bl.length E bl.length).length = bl.length) : Calls Tryz.prog 64 #[.agg (desA D), jv] w (Ret w (.int .i64 0)) := by
  have HNO := Lib.hid (fun w' (hb : Below w.heap.size w w') => nOrder_any D ns es w' (h.keep hb) hn he hd hs hs2 bl hbl E hE)
  have HBK := Lib.hid (fun w' (hb : Below w.heap.size w w') => Blocks_any D ns w' (h.n.keep hb) (by omega))
  rw [hbl] at HBK
  have HT := Lib.hid ht
  have HC := Lib.hid hc; have HJ := Lib.hid hJ
  obtain ⟨ja, jc, rfl, j1, j2, j3⟩ := hj
  have J3 := Lib.hid j3
  have hlen := hJ.few
  rw [hl_len] at hlen
  clear h hs hs2 hd hbl hE hc hJ j3 ht
  obtain ⟨W0, HO0, HB0, HW0, HZ0⟩ := boxD w D
  have hm : l.length ≤ 9223372036854775807 := by omega
  have d1 : ¬ (64 : Int) < l.length := by omega
  unfold desA at HNO HBK ⊢
  go_enter Tryz.func64, Tryz.ntmps64
  go_upto_region 1 with fail
  rw [HW0.out]
  clear HW0
  obtain ⟨c0, c1, c2, c3, c4, c5⟩ := desC HO0.out
  go_wp2_with fail
  refine (HNO.out W0 HB0.out).mono ?_
  rintro e w1 ⟨nv, rfl, _, h1'⟩
  rw [if_pos HT.out]
  clear c0 c1 c2 c3 c4 c5 d1
  have HB1 := Lib.hid (ext_trans HB0.out h1')
  obtain ⟨c0, c1, c2, c3, c4, c5⟩ := desC (HO0.out.keep h1')
  clear h1'
  go_wp2_with fail
  refine (HBK.out w1 HB1.out).mono ?_
  rintro e w2 ⟨bv, rfl, hbs, h2'⟩
  clear c0 c1 c2 c3 c4 c5
  have HB2 := Lib.hid (ext_trans HB1.out h2')
  have HBS := Lib.hid hbs
  clear h2' hbs
  go_wp2_with fail
  go_loopw [25] (fun i wr => ∃ k : Nat, k ≤ l.length ∧ i = .int .i64 k ∧ Hid (Below w2.heap.size w2 wr)) (fun i _ => l.length - (intOf i).toNat)
  case atStart => exact ⟨0, Nat.zero_le _, rfl, Below.refl _ _⟩
  case round =>
    obtain ⟨k, hk, rfl, hb⟩ := hrel
    by_cases hlt : k < l.length
    · obtain ⟨b, off, rfl, hc⟩ := J3.out k hlt
      have HBW := Lib.hid (ext_trans HB2.out hb.out)
      obtain ⟨c0, c1, c2⟩ := hc.keep HBW.out
      obtain ⟨va, vc, hav, hsz⟩ := HC.out.form hlt
      have HAV := Lib.hid hav
      have HSZ := Lib.hid hsz
      rw [hav] at c2
      obtain ⟨W3, HO3, HC3, HW3, _⟩ := copyH wr (mhi l k) hav
      have HB3 := Lib.hid (ext_trans hb.out HC3.out)
      have hmem : (mhi l k).h ∈ hl l := by unfold hl; exact List.mem_map_of_mem (mhi_mem hlt)
      have HBL : Hid (bl.contains (mhi l k).h.block = true) := by show _ = _; rw [List.contains_iff_mem]; exact HJ.out.blk _ hmem
      obtain ⟨r1, r2⟩ := HJ.out.hr _ hmem
      obtain ⟨r3, r4⟩ := HJ.out.cn _ hmem
      have HCA := Lib.hid (HJ.out.ca _ hmem)
      clear hc hav hsz hmem
      go_upto_region 10 with fail
      rw [HW3.out]
      clear c0 c1 c2 HW3
      obtain ⟨c0, c1, c2⟩ := hsC HO3.out
      rw [Nat.zero_add] at c1 c2
      rw [HAV.out] at c2
      go_wp2_with fail
      refine (cnS_any bv bl (mhi l k).h.block W3 (HBS.out.keep HB3.out)).mono ?_
      rintro e w4 ⟨rfl, h4'⟩
      rw [HBL.out]
      clear c0 c1 c2
      have HB4 := Lib.hid (ext_trans HB3.out h4')
      obtain ⟨c0, c1, c2⟩ := hsC (HO3.out.keep h4')
      rw [Nat.zero_add] at c1 c2
      rw [HAV.out] at c2
      have HO4 := Lib.hid (HO3.out.keep h4')
      clear h4'
      cases k with
      | zero =>
        have hq0 : (((mhi l 0).h.cranes.length : Int) == 0) = false := by rw [beq_eq_false_iff_ne]; omega
        have n1 : ¬ (mhi l 0).h.hours < 1 := by omega
        have n2 : ¬ (10000 : Int) < (mhi l 0).h.hours := by omega
        have n3 : ¬ (8 : Int) < ((mhi l 0).h.cranes.length : Int) := by omega
        go_upto_region 12 with fail
        go_quiet (fail)
        obtain ⟨W5, hW5⟩ : ∃ W5, w4.drewN nq = W5 := ⟨_, rfl⟩
        have HC5 : Hid (Below w4.heap.size w4 W5) := by show Below ..; rw [← hW5]; exact ⟨rfl, rfl, rfl, Nat.le_refl _, fun k hk => rfl⟩
        rw [hW5]
        clear hW5 c0 c1 c2
        have HB5 := Lib.hid (ext_trans HB4.out HC5.out)
        obtain ⟨c0, c1, c2⟩ := hsC (HO4.out.keep HC5.out)
        rw [Nat.zero_add] at c1 c2
        rw [HAV.out] at c2
        go_wp2_with fail
        refine (asc_any (.slice va (mhi l 0).h.cranes.length vc) (mhi l 0).h.cranes W5 (HSZ.out.keep (ext_trans HB2.out HB5.out)) HCA.out).mono ?_
        rintro e w6 ⟨rfl, h6'⟩
        have HB6 := Lib.hid (ext_trans HB5.out h6')
        clear h6' c0 c1 c2
        go_wp2_with fail
        go_roundw
        case rel => exact ⟨0 + 1, by omega, by go_num, HB6⟩
        case measure => simp [intOf]; omega
      | succ q =>
        obtain ⟨b', off', ha', hc'⟩ := J3.out q (by omega)
        have ha' := Option.some.inj ha'
        simp only [Addr.mk.injEq] at ha'
        obtain ⟨rfl, rfl, _⟩ := ha'
        have p0 := (hc'.keep (ext_trans HB2.out HB4.out)).c0
        have hl := HJ.out.asc q (by rw [hl_len]; exact hlt)
        rw [hsi_ml (by omega), hsi_ml hlt] at hl
        have hl2 : Op.bytesLess (bs (mhi l (q + 1)).h.block).toList (bs (mhi l q).h.block).toList = false := by rw [bs_toList, bs_toList]; exact (less_asym hl).1
        have hl3 : ((bs (mhi l (q + 1)).h.block).toList == (bs (mhi l q).h.block).toList) = false := by rw [bs_toList, bs_toList]; exact (less_asym hl).2
        have w4' : wrap64 (q : Int) = (q : Int) := IntWalk.wrap64_in _ (by omega)
        have i9 : (q : Int) < l.length := by omega
        clear hc' hl
        have hq0 : (((mhi l (q + 1)).h.cranes.length : Int) == 0) = false := by rw [beq_eq_false_iff_ne]; omega
        have n1 : ¬ (mhi l (q + 1)).h.hours < 1 := by omega
        have n2 : ¬ (10000 : Int) < (mhi l (q + 1)).h.hours := by omega
        have n3 : ¬ (8 : Int) < ((mhi l (q + 1)).h.cranes.length : Int) := by omega
        go_upto_region 12 with fail
        go_quiet (fail)
        obtain ⟨W5, hW5⟩ : ∃ W5, w4.drewN nq = W5 := ⟨_, rfl⟩
        have HC5 : Hid (Below w4.heap.size w4 W5) := by show Below ..; rw [← hW5]; exact ⟨rfl, rfl, rfl, Nat.le_refl _, fun k hk => rfl⟩
        rw [hW5]
        clear hW5 c0 c1 c2
        have HB5 := Lib.hid (ext_trans HB4.out HC5.out)
        obtain ⟨c0, c1, c2⟩ := hsC (HO4.out.keep HC5.out)
        rw [Nat.zero_add] at c1 c2
        rw [HAV.out] at c2
        go_wp2_with fail
        refine (asc_any (.slice va (mhi l (q + 1)).h.cranes.length vc) (mhi l (q + 1)).h.cranes W5 (HSZ.out.keep (ext_trans HB2.out HB5.out)) HCA.out).mono ?_
        rintro e w6 ⟨rfl, h6'⟩
        have HB6 := Lib.hid (ext_trans HB5.out h6')
        clear h6' c0 c1 c2
        go_wp2_with fail
        go_roundw
        case rel => exact ⟨q + 1 + 1, by omega, by go_num, HB6⟩
        case measure => simp [intOf]; omega
    · obtain rfl : k = l.length := by omega
      have HBE := Lib.hid (ext_trans HB2.out hb.out)
      go_wp2_with fail
      go_ret
      exact ⟨rfl, HBE.out⟩
end Go.Proofs.YtfpnjbomlmhlpaaGreat
