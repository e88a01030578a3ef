/- Contract: the law's right. -/
import Derived.Test.YtlgepggmgfnneaaRowSpec
import Derived.Test.YtlgepggmgfnneaaBarC
namespace Go.Proofs.Ytlgepggmgfnneaa
open Go.RowKit

theorem Try_infoBool : (Try.prog.info? 4).map (fun i => (i.zero, i.size, i.bytes)) = some (some (.bool false), 1, 1) := by kernel_rfl
def seenF (F : List Int) (x : Int) : Bool := F.any fun y => x == y
def seenM (F : List Int) (n : Nat) : List Value := (List.range n).map fun (i : Nat) => .bool (seenF F (i : Int))
theorem seenM_nil (n : Nat) : seenM [] n = (madeCells #[Value.bool false] n).toList := by
  rw [toList_madeCells_one]
  apply List.ext_getElem
  · simp [seenM]
  · intro i h1 h2; simp [seenM, seenF]
theorem seenM_get (F : List Int) {n x : Nat} (h : x < n) : (seenM F n)[x]? = some (.bool (seenF F x)) := by simp [seenM, h]
theorem seenM_set (F : List Int) (n x : Nat) : (seenM F n).set x (.bool true) = seenM (F ++ [(x : Int)]) n := by
  apply List.ext_getElem
  · simp [seenM]
  · intro i h1 h2
    rw [List.getElem_set]
    simp only [seenM, List.getElem_map, List.getElem_range, seenF]
    rw [List.any_append]
    split
    · rename_i e; subst e; simp
    · rename_i e
      have : ((i : Int) == (x : Int)) = false := by rw [beq_eq_false_iff_ne]; omega
      simp [this]
theorem seenF_iff {F : List Int} {x : Int} : seenF F x = true ↔ x ∈ F := by simp [seenF]

/-- what has been gone through is right so far -/
structure PreP (plan : List (List Int)) (l : List Int) (s k : Int) (i p : Nat) : Prop where
  rows : ∀ j, j < i → ri plan j ≠ [] ∧ usedOf l k (ri plan j) ≤ s
  rng : ∀ x ∈ (plan.take i).flatten ++ (ri plan i).take p, 0 ≤ x ∧ x < l.length
  nd : ((plan.take i).flatten ++ (ri plan i).take p).Nodup
def preF (plan : List (List Int)) (i p : Nat) : List Int := (plan.take i).flatten ++ (ri plan i).take p
theorem preF_zero (plan i) : preF plan i 0 = (plan.take i).flatten := by simp [preF]
theorem preF_succ {plan : List (List Int)} {i p : Nat} (h : p < (ri plan i).length) : preF plan i (p + 1) = preF plan i p ++ [gi (ri plan i) p] := by
  unfold preF; rw [take_succ_gi h, List.append_assoc]
theorem preF_row {plan : List (List Int)} {i p : Nat} (h : i < plan.length) (hp : (ri plan i).length ≤ p) : preF plan i p = preF plan (i + 1) 0 := by
  unfold preF; rw [List.take_of_length_le hp, take_succ_ri h]; simp
theorem preF_prefix {plan : List (List Int)} {i p : Nat} (h : i < plan.length) : ∃ t, plan.flatten = preF plan i p ++ t := by
  refine ⟨(ri plan i).drop p ++ (plan.drop (i + 1)).flatten, ?_⟩
  unfold preF
  rw [List.append_assoc, ← List.append_assoc ((ri plan i).take p), List.take_append_drop]
  have e : plan = plan.take i ++ (ri plan i :: plan.drop (i + 1)) := by
    rw [ri_lt h, ← List.drop_eq_getElem_cons h, List.take_append_drop]
  conv => lhs; rw [e]
  simp
theorem PreP.start (plan l s k) : PreP plan l s k 0 0 := ⟨fun j hj => by omega, fun x hx => by simp at hx, by simp⟩
theorem PreP.step {plan : List (List Int)} {l : List Int} {s k : Int} {i p : Nat} (h : PreP plan l s k i p) (hp : p < (ri plan i).length) (h0 : 0 ≤ gi (ri plan i) p) (h1 : gi (ri plan i) p < l.length) (hn : seenF (preF plan i p) (gi (ri plan i) p) = false) : PreP plan l s k i (p + 1) := by
  have e := preF_succ hp
  have hn' : gi (ri plan i) p ∉ preF plan i p := fun hm => by rw [seenF_iff.2 hm] at hn; cases hn
  refine ⟨h.rows, fun x hx => ?_, ?_⟩
  · rw [show (plan.take i).flatten ++ (ri plan i).take (p + 1) = preF plan i (p + 1) from rfl, e, List.mem_append, List.mem_singleton] at hx
    rcases hx with hx | rfl
    · exact h.rng x hx
    · exact ⟨h0, h1⟩
  · rw [show (plan.take i).flatten ++ (ri plan i).take (p + 1) = preF plan i (p + 1) from rfl, e, List.nodup_append]
    exact ⟨h.nd, by simp, fun a ha b hb e => by simp at hb; subst hb; subst e; exact hn' ha⟩
theorem PreP.row {plan : List (List Int)} {l : List Int} {s k : Int} {i p : Nat} (h : PreP plan l s k i p) (hi : i < plan.length) (hp : (ri plan i).length ≤ p) (hne : ri plan i ≠ []) (hu : usedOf l k (ri plan i) ≤ s) : PreP plan l s k (i + 1) 0 := by
  have e := preF_row hi hp
  refine ⟨fun j hj => ?_, fun x hx => h.rng x ?_, ?_⟩
  · by_cases ej : j = i
    · subst ej; exact ⟨hne, hu⟩
    · exact h.rows j (by omega)
  · rw [show (plan.take (i + 1)).flatten ++ (ri plan (i + 1)).take 0 = preF plan (i + 1) 0 from rfl, ← e] at hx; exact hx
  · rw [show (plan.take (i + 1)).flatten ++ (ri plan (i + 1)).take 0 = preF plan (i + 1) 0 from rfl, ← e]; exact h.nd
theorem PreP.done {plan : List (List Int)} {l : List Int} {s k : Int} (h : PreP plan l s k plan.length 0) : (preF plan plan.length 0).length = l.length ↔ RightP plan l s k := by
  have e : preF plan plan.length 0 = plan.flatten := by rw [preF_zero, List.take_length]
  have hr := h.rng
  have hn := h.nd
  rw [show (plan.take plan.length).flatten ++ (ri plan plan.length).take 0 = preF plan plan.length 0 from rfl, e] at hr hn
  rw [e]
  constructor
  · intro hl
    refine ⟨fun row hrow => ?_, hr, hn, hl⟩
    obtain ⟨j, hj, rfl⟩ := mem_ri hrow
    exact h.rows j hj
  · exact fun h => h.len
theorem RightP.pre {plan : List (List Int)} {l : List Int} {s k : Int} (h : RightP plan l s k) {i p : Nat} (hi : i < plan.length) (hp : p < (ri plan i).length) :
    0 ≤ gi (ri plan i) p ∧ gi (ri plan i) p < l.length ∧ seenF (preF plan i p) (gi (ri plan i) p) = false := by
  obtain ⟨t, ht⟩ := preF_prefix (p := p + 1) hi
  rw [preF_succ hp] at ht
  have hr := h.rng (gi (ri plan i) p) (by rw [ht]; simp)
  refine ⟨hr.1, hr.2, ?_⟩
  rw [Bool.eq_false_iff]
  intro hs
  have hm := seenF_iff.1 hs
  have hn := h.nd
  rw [ht, List.append_assoc, List.nodup_append] at hn
  exact hn.2.2 _ hm _ (by simp) rfl
theorem PreP.small {plan : List (List Int)} {l : List Int} {s k : Int} {i p : Nat} (h : PreP plan l s k i p) : (preF plan i p).length ≤ l.length := nodup_boundI h.nd h.rng
theorem used_nil (l k) : usedOf l k [] = -k := by simp [usedOf]
theorem used_succ {l : List Int} {k : Int} {row : List Int} {p : Nat} (h : p < row.length) : usedOf l k (row.take (p + 1)) = usedOf l k (row.take p) + k + glI l (gi row p) := by
  unfold usedOf; rw [take_succ_gi h]; simp; omega
theorem used_bound {l : List Int} {s k : Int} (hg : GoodB l s k) : ∀ {row : List Int}, (∀ x ∈ row, 0 ≤ x ∧ x < l.length) → -100 ≤ usedOf l k row ∧ usedOf l k row ≤ row.length * 40000 := by
  intro row h
  have := hg.kerf
  have hs := sum_le (l := row.map fun x => glI l x + k) (b := 40000) (by omega) (fun y hy => by
    rw [List.mem_map] at hy
    obtain ⟨x, hx, rfl⟩ := hy
    have hx := h x hx
    have := hg.side (glI l x) (by unfold glI; exact gi_mem (by omega))
    omega)
  rw [List.length_map] at hs
  unfold usedOf
  omega

set_option maxRecDepth 100000 in
set_option maxHeartbeats 4000000 in
theorem lright_any (v u : Value) (plan : List (List Int)) (l : List Int) (s k : Int) (w : World) (h : SS w v plan) (g : SI w u l) (hg : GoodB l s k) :
    Calls Try.prog 25 #[v, u, .int .i64 s, .int .i64 k] w fun e w' => (∃ b, e = .returned (.bool b) ∧ (b = true ↔ RightP plan l s k)) ∧ Below w.heap.size w w' := by
  have HG := Lib.hid hg
  obtain ⟨vs, ⟨a, cap, rfl, h1, h2, h3⟩, h4⟩ := h
  obtain ⟨a', cap', rfl, g1, g2, g3⟩ := g
  have H3 := Lib.hid h3; have G3 := Lib.hid g3; have H4 := Lib.hid h4
  have hm : plan.length ≤ 9223372036854775807 := by unfold maxLen at h2; omega
  have h256 := hg.len
  have hkf := hg.kerf
  have hst := hg.stock
  obtain ⟨iB, hi, hz0, hz1, hz2⟩ := info_parts Try_infoBool
  have HI := Lib.hid hi; have HZ0 := Lib.hid hz0; have HZ1 := Lib.hid hz1; have HZ2 := Lib.hid hz2
  clear h3 g3 h4 hg hi hz0 hz1 hz2
  go_enter Try.func25, Try.ntmps25
  go_wp2_with (at_make; refine wpList_make_full _ rfl _ _ 72 rfl w.heap.size 4 iB (.bool false) 1 Try.underlying72 HI.out HZ0.out HZ1.out _ _ _ _ l.length rfl rfl rfl rfl ?c1 ?c2 (Nat.le_refl _) ?_)
  case c1 => rw [HZ2.out]; omega
  case c2 => unfold maxLen; omega
  intro w1 hown1 hgrow1
  rw [← seenM_nil] at hown1
  have HO1 := Lib.hid hown1; clear hown1
  have HB1 := Lib.hid (grownBy_below hgrow1); clear hgrow1
  go_wp2_with fail
  go_loopg [10, 11, 12, 13, 14] plan.length (fun g n i _ _ _ wr => ∃ j : Nat, j ≤ plan.length ∧ i = .int .i64 j ∧ g = plan.length - j ∧ n = .int .i64 (preF plan j 0).length ∧ Hid (PreP plan l s k j 0) ∧ Hid (Below w.heap.size w wr) ∧ Hid (wr.ownsRow w.heap.size 4 1 (.slice (some ⟨w.heap.size, 0, none⟩) l.length l.length) l.length (seenM (preF plan j 0) l.length)))
  case atStart => exact ⟨0, Nat.zero_le _, rfl, by omega, rfl, PreP.start _ _ _ _, HB1.out, HO1.out⟩
  case round =>
    obtain ⟨j, hj, rfl, rfl, rfl, hpre, hbel, ho⟩ := hrel
    have hsm := hpre.out.small
    by_cases hlt : j < plan.length
    · obtain ⟨b, off, ha, hc⟩ := H3.out j hlt
      obtain ⟨ak, ck, ek, n1, n2, hr⟩ := H4.out j hlt
      rw [ek] at hc
      have HC := Lib.hid hc
      have HRW := Lib.hid hr
      have q1 : (ri plan j).length ≤ 9223372036854775807 := by unfold maxLen at n2; omega
      subst ha
      clear hc hr ek
      obtain ⟨row, hrow⟩ : ∃ row, ri plan j = row := ⟨_, rfl⟩
      rw [hrow] at HRW HC n1 q1
      have HROW := Lib.hid hrow
      clear hrow
      go_wp2_with fail
      go_loopg [10, 12, 13, 14] row.length (fun g n u p _ wr => ∃ q : Nat, q ≤ row.length ∧ p = .int .i64 q ∧ g = row.length - q ∧ n = .int .i64 (preF plan j q).length ∧ u = .int .i64 (usedOf l k (row.take q)) ∧ Hid (PreP plan l s k j q) ∧ Hid (Below w.heap.size w wr) ∧ Hid (wr.ownsRow w.heap.size 4 1 (.slice (some ⟨w.heap.size, 0, none⟩) l.length l.length) l.length (seenM (preF plan j q) l.length)))
      case atStart => exact ⟨0, Nat.zero_le _, rfl, by omega, rfl, by rw [List.take_zero, used_nil], hpre.out, hbel.out, ho.out⟩
      case round =>
        clear hbel ho hpre hsm
        obtain ⟨q, hq, rfl, rfl, rfl, rfl, hpre, hbel, ho⟩ := hrel
        have hsm := hpre.out.small
        have hc := cell_keep hbel.out HC.out
        by_cases hlq : q < row.length
        · obtain ⟨d1, f1, hd1, he1⟩ := HRW.out q hlq
          have he1 := cell_keep hbel.out he1
          try dsimp only at he1
          subst hd1
          have hub := used_bound HG.out (row := row.take q) (fun x hx => hpre.out.rng x (by rw [List.mem_append]; right; rw [HROW.out]; exact hx))
          have hql : (row.take q).length ≤ 256 := by
            have : (row.take q).length ≤ (preF plan j q).length := by unfold preF; rw [HROW.out]; simp
            omega
          have hub : -100 ≤ usedOf l k (row.take q) ∧ usedOf l k (row.take q) ≤ 10240000 := ⟨hub.1, by have := hub.2; omega⟩
          have HUS := Lib.hid (used_succ (l := l) (k := k) hlq)
          have HPS := Lib.hid (preF_succ (plan := plan) (i := j) (p := q) (by rw [HROW.out]; exact hlq))
          have HST : Hid (0 ≤ gi row q → gi row q < l.length → seenF (preF plan j q) (gi row q) = false → PreP plan l s k j (q + 1)) := fun a b c => by
            have := hpre.out.step (by rw [HROW.out]; exact hlq) (by rw [HROW.out]; exact a) (by rw [HROW.out]; exact b) (by rw [HROW.out]; exact c)
            exact this
          have HNO : Hid (RightP plan l s k → 0 ≤ gi row q ∧ gi row q < l.length ∧ seenF (preF plan j q) (gi row q) = false) := fun h => by
            have := h.pre hlt (p := q) (by rw [HROW.out]; exact hlq)
            rw [HROW.out] at this; exact this
          rw [HROW.out] at HPS
          obtain ⟨x, hx⟩ : ∃ x, gi row q = x := ⟨_, rfl⟩
          rw [hx] at he1 HUS HPS HST HNO
          obtain ⟨us, hus⟩ : ∃ us, usedOf l k (row.take q) = us := ⟨_, rfl⟩
          rw [hus] at hub HUS ⊢
          obtain ⟨nn, hnn⟩ : ∃ nn, (preF plan j q).length = nn := ⟨_, rfl⟩
          rw [hnn] at hsm ⊢
          have HNN := Lib.hid hnn
          clear hx hus hnn
          by_cases d1 : x < 0
          · have D1 : decide (x < 0) = true := by simpa using d1
            have HF : Hid (¬ RightP plan l s k) := fun h => by have := HNO.out h; omega
            clear d1
            go_wp2_with fail
            go_ret
            exact ⟨⟨false, rfl, by simpa using HF.out⟩, hbel.out⟩
          have D1 : decide (x < 0) = false := by simpa using d1
          by_cases d2 : (l.length : Int) ≤ x
          · have D2 : decide ((l.length : Int) ≤ x) = true := by simpa using d2
            have HF : Hid (¬ RightP plan l s k) := fun h => by have := HNO.out h; omega
            clear d1 d2
            go_wp2_with fail
            go_ret
            exact ⟨⟨false, rfl, by simpa using HF.out⟩, hbel.out⟩
          have D2 : decide ((l.length : Int) ≤ x) = false := by simpa using d2
          obtain ⟨x, rfl⟩ : ∃ z : Nat, x = (z : Int) := ⟨x.toNat, by omega⟩
          have hxn : x < l.length := by omega
          obtain ⟨bl, ol, hal, hcl⟩ := G3.out x hxn
          have hbl : bl < w.heap.size := World.block_lt_of_cell? w _ hcl
          have hcl := cell_keep hbel.out hcl
          try dsimp only at hcl
          have hgs := HG.out.side _ (gi_mem hxn)
          have HGL : Hid (glI l (x : Int) = gi l x) := by show _ = _; simp [glI]
          rw [HGL.out] at HUS
          obtain ⟨li, hli⟩ : ∃ li, gi l x = li := ⟨_, rfl⟩
          rw [hli] at hgs hcl HUS
          subst hal
          have hsc := ho.out.cellAt x (by omega)
          rw [seenM_get _ hxn] at hsc
          have hfz := ho.out.frozenAt x
          have hxc : (x : Int) < cap' := by omega
          clear d1 d2 hli
          cases hs : seenF (preF plan j q) x
          · rw [hs] at hsc
            have HPR := Lib.hid (HST.out (by omega) (by omega) hs)
            clear hs
            have e1 : IntKind.i64.wrap (us + k) = us + k := IntWalk.i64_in _ (by omega)
            have e2 : IntKind.i64.wrap (us + k + li) = us + k + li := IntWalk.i64_in _ (by omega)
            go_wp2_with fail
            go_roundg (row.length - (q + 1))
            case measure => omega
            case rel =>
              refine ⟨q + 1, by omega, by go_num, rfl, ?_, by rw [HUS.out], HPR.out, hbel.out.setCell (Nat.le_refl _) _, ?_⟩
              · rw [HPS.out, List.length_append, List.length_singleton, HNN.out]; go_num
              · rw [HPS.out, ← seenM_set]
                exact (ho.out.stored x _).1
          · rw [hs] at hsc
            have HF : Hid (¬ RightP plan l s k) := fun h => by have := (HNO.out h).2.2; rw [hs] at this; cases this
            clear hs
            go_wp2_with fail
            go_ret
            exact ⟨⟨false, rfl, by simpa using HF.out⟩, hbel.out⟩
        · have hql : q = row.length := by omega
          have HTK : Hid (row.take q = row) := by show _ = _; rw [List.take_of_length_le (by omega)]
          rw [HTK.out]
          have HPR : Hid (ri plan j ≠ [] → usedOf l k (ri plan j) ≤ s → PreP plan l s k (j + 1) 0) := fun a b => hpre.out.row hlt (by rw [HROW.out]; omega) a b
          have HPF := Lib.hid (preF_row (plan := plan) (i := j) (p := q) hlt (by rw [HROW.out]; omega))
          have HNO : Hid (RightP plan l s k → row ≠ [] ∧ usedOf l k row ≤ s) := fun h => by
            have := h.rows _ (ri_mem hlt)
            rw [HROW.out] at this; exact this
          rw [HROW.out] at HPR
          by_cases d1 : row.length = 0
          · have D1 : ((row.length : Int) == 0) = true := by rw [beq_iff_eq]; omega
            have HF : Hid (¬ RightP plan l s k) := fun h => (HNO.out h).1 (List.eq_nil_of_length_eq_zero d1)
            clear d1 hql
            go_wp2_with fail
            go_ret
            exact ⟨⟨false, rfl, by simpa using HF.out⟩, hbel.out⟩
          have D1 : ((row.length : Int) == 0) = false := by rw [beq_eq_false_iff_ne]; omega
          have HNE : Hid (row ≠ []) := fun e => d1 (by rw [e]; rfl)
          clear d1 hql
          by_cases d2 : s < usedOf l k row
          · have D2 : decide (s < usedOf l k row) = true := by simpa using d2
            have HF : Hid (¬ RightP plan l s k) := fun h => by have := (HNO.out h).2; omega
            clear d2
            go_wp2_with fail
            go_ret
            exact ⟨⟨false, rfl, by simpa using HF.out⟩, hbel.out⟩
          · have D2 : decide (s < usedOf l k row) = false := by simpa using d2
            have HPX := Lib.hid (HPR.out HNE.out (by omega))
            clear d2
            go_wp2_with fail
            go_roundg (plan.length - (j + 1))
            case measure => omega
            case rel => exact ⟨j + 1, by omega, by go_num, rfl, by rw [HPF.out], HPX.out, hbel.out, by rw [← HPF.out]; exact ho.out⟩
    · obtain rfl : j = plan.length := by omega
      have HD := Lib.hid hpre.out.done
      clear hpre
      go_wp2_with fail
      go_ret
      refine ⟨⟨_, rfl, ?_⟩, hbel.out⟩
      rw [← HD.out]
      simp only [beq_iff_eq, decide_eq_true_eq]
      omega
end Go.Proofs.Ytlgepggmgfnneaa
