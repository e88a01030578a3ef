/- The reference's parts: spare, known come back with a truth value (printed by wip/gen_gmk.py). -/
import Derived.Test.YtfpnjbomlmhlpaaGreatPk15
set_option linter.unusedSimpArgs false
set_option linter.unusedVariables false

/- Small functions of the references: in, before, Has, Ascending, block, far, Valid, zero (printed by wip/gen_gmf.py). -/
namespace Go.Proofs.YtfpnjbomlmhlpaaGreat
open Go.RowKit

def inB (n lo hi : Int) : Bool := decide (lo ≤ n) && decide (n ≤ hi)
set_option maxRecDepth 100000 in
theorem rIn_any (n lo hi : Int) (w : World) : Calls Tryz.prog 47 #[.int .i64 n, .int .i64 lo, .int .i64 hi] w (Ret w (.bool (inB n lo hi))) := by
  go_enter Tryz.func47, Tryz.ntmps47
  go_upto_region 1 with fail
  refine wp_region_et gmT gmT_ok [] (Below w.heap.size w) [] [] [(6, .bool (inB n lo hi))] (by kernel_rfl) (Below.refl _ _)
    obsN trivial ?_
  conv => whnf
  intro f1
  conv => whnf
  refine And.intro (rfl) ?_
  conv => whnf
  intro w2 h2
  have HB2 := Lib.hid h2
  go_wp2_with fail
  go_ret
  exact ⟨rfl, HB2.out⟩
def befN (a b : Nd) : Bool := if a.kind = b.kind then if a.block = b.block then Op.bytesLess a.on b.on else Op.bytesLess a.block b.block else decide (a.kind < b.kind)
set_option maxRecDepth 100000 in
theorem rbefore_any (a b : Nd) (w : World) : Calls Tryz.prog 50 #[.agg (ndA a), .agg (ndA b)] w (Ret w (.bool (befN a b))) := by
  obtain ⟨W1, HOa', HOb', HB, HW⟩ := two_box w #[.int .i64 a.kind, .string (bs a.block), .string (bs a.on)] #[.int .i64 b.kind, .string (bs b.block), .string (bs b.on)] 104 104
  have HOa : Hid (ObjAt W1 w.heap.size (ndA a) 104) := HOa'
  have HOb : Hid (ObjAt W1 (w.heap.size + 1) (ndA b) 104) := HOb'
  have HV : Hid (befN a b = if a.kind = b.kind then if a.block = b.block then Op.bytesLess a.on b.on else Op.bytesLess a.block b.block else decide (a.kind < b.kind)) := rfl
  clear HOa' HOb'
  obtain ⟨k1, hk1⟩ : ∃ k, a.kind = k := ⟨_, rfl⟩
  obtain ⟨k2, hk2⟩ : ∃ k, b.kind = k := ⟨_, rfl⟩
  unfold ndA
  rw [hk1, hk2] at HV ⊢
  have HK1 := Lib.hid hk1
  have HK2 := Lib.hid hk2
  rw [hk1, hk2] at HW
  clear hk1 hk2
  go_enter Tryz.func50, Tryz.ntmps50
  go_upto_region 1 with fail
  rw [HW.out]
  clear HW
  have c0 := HOa.out.cell 0
  have d0 := HOb.out.cell 0
  have c1 := HOa.out.cell 1
  have d1 := HOb.out.cell 1
  have c2 := HOa.out.cell 2
  have d2 := HOb.out.cell 2
  dsimp [ndA] at c0 d0 c1 d1 c2 d2
  rw [HK1.out] at c0
  rw [HK2.out] at d0
  have HE := Lib.hid (bs_eq a.block b.block)
  have HL1 := Lib.hid (show Op.bytesLess (bs a.block).toList (bs b.block).toList = Op.bytesLess a.block b.block by rw [bs_toList, bs_toList])
  have HL2 := Lib.hid (show Op.bytesLess (bs a.on).toList (bs b.on).toList = Op.bytesLess a.on b.on by rw [bs_toList, bs_toList])
  by_cases h1 : k1 = k2
  · rw [if_pos h1] at HV
    obtain ⟨z, hz⟩ : ∃ z, ((bs a.block).toList == (bs b.block).toList) = z := ⟨_, rfl⟩
    rw [hz] at HE
    cases z
    · rw [if_neg (by have := HE.out.symm; rw [beq_eq_false_iff_ne] at this; exact this)] at HV
      go_wp2_with fail
      go_ret
      exact ⟨ret_bool (HL1.out.trans HV.out.symm), HB.out⟩
    · rw [if_pos (eq_of_beq HE.out.symm)] at HV
      go_wp2_with fail
      go_ret
      exact ⟨ret_bool (HL2.out.trans HV.out.symm), HB.out⟩
  · rw [if_neg h1] at HV
    go_wp2_with fail
    go_ret
    exact ⟨ret_bool HV.out.symm, HB.out⟩
def hasS (l : List (List UInt8)) (s : List UInt8) : Bool := l.any (· == s)
set_option maxRecDepth 100000 in
theorem rHas_any (v : Value) (l : List (List UInt8)) (s : List UInt8) (w : World) (h : SZ w v (l.map bs)) : Calls Tryz.prog 51 #[v, .string (bs s)] w (Ret w (.bool (hasS l s))) := by
  obtain ⟨a, cap, rfl, h1, h2, h3⟩ := h
  rw [List.length_map] at h1 h3
  rw [List.length_map]
  have H3 := Lib.hid h3; clear h3
  have hm : l.length ≤ 9223372036854775807 := by unfold maxLen at h2; omega
  go_enter Tryz.func51, Tryz.ntmps51
  go_wp2_with fail
  go_loopw [5] (fun i wr => ∃ k : Nat, k ≤ l.length ∧ i = .int .i64 k ∧ Hid (Below w.heap.size w wr) ∧ Hid (∀ j (hj : j < l.length), j < k → (l[j] == s) = false)) (fun i _ => l.length - (intOf i).toNat)
  case atStart => exact ⟨0, Nat.zero_le _, rfl, Below.refl _ _, fun j hj h0 => by omega⟩
  case round =>
    obtain ⟨k, hk, rfl, hb, hj⟩ := hrel
    by_cases hlt : k < l.length
    · obtain ⟨b, off, rfl, hc⟩ := H3.out k hlt
      have c0 := cell_keep hb.out hc
      try dsimp only at c0
      rw [zi_bs hlt] at c0
      have HE := Lib.hid (bs_eq l[k] s)
      have i1 : (k : Int) < l.length := by omega
      clear hc
      obtain ⟨z, hz⟩ : ∃ z, ((bs l[k]).toList == (bs s).toList) = z := ⟨_, rfl⟩
      rw [hz] at HE
      cases z
      · have HJ : Hid (∀ j (hj : j < l.length), j < k + 1 → (l[j] == s) = false) := fun j hjl hjk => by
          by_cases e : j = k
          · subst e; exact HE.out.symm
          · exact hj.out j hjl (by omega)
        go_wp2_with fail
        go_roundw
        case rel => exact ⟨k + 1, by omega, by go_num, hb, HJ⟩
        case measure => simp [intOf]; omega
      · have HV : Hid (hasS l s = true) := by
          show _ = _
          unfold hasS
          rw [List.any_eq_true]
          exact ⟨l[k], List.getElem_mem hlt, HE.out.symm⟩
        go_wp2_with fail
        go_ret
        exact ⟨ret_bool HV.out.symm, hb.out⟩
    · have i1 : ¬ (k : Int) < l.length := by omega
      have HV : Hid (hasS l s = false) := by
        show _ = _
        unfold hasS
        rw [List.any_eq_false]
        intro x hx
        obtain ⟨j, hjl, rfl⟩ := List.mem_iff_getElem.1 hx
        rw [hj.out j hjl (by omega)]; decide
      go_wp2_with fail
      go_ret
      exact ⟨ret_bool HV.out.symm, hb.out⟩
noncomputable def ascB (l : List (List UInt8)) : Bool := @decide (AscS l) (Classical.propDecidable _)
theorem ascB_true {l : List (List UInt8)} (h : AscS l) : ascB l = true := @decide_eq_true _ (Classical.propDecidable _) h
theorem ascB_false {l : List (List UInt8)} (h : ¬ AscS l) : ascB l = false := @decide_eq_false _ (Classical.propDecidable _) h
theorem ascB_iff {l : List (List UInt8)} : ascB l = true ↔ AscS l := @decide_eq_true_iff _ (Classical.propDecidable _)
set_option maxRecDepth 100000 in
theorem rAsc_any (v : Value) (l : List (List UInt8)) (w : World) (h : SZ w v (l.map bs)) : Calls Tryz.prog 49 #[v] w (Ret w (.bool (ascB l))) := by
  obtain ⟨a, cap, rfl, h1, h2, h3⟩ := h
  rw [List.length_map] at h1 h3
  rw [List.length_map]
  have H3 := Lib.hid h3; clear h3
  have hm : l.length ≤ 9223372036854775807 := by unfold maxLen at h2; omega
  unfold maxLen at h2
  go_enter Tryz.func49, Tryz.ntmps49
  go_wp2_with fail
  go_loopw [3] (fun i wr => ∃ k : Nat, i = .int .i64 ((k : Int) + 1) ∧ k ≤ l.length ∧ Hid (Below w.heap.size w wr) ∧ Hid (∀ j (h : j + 1 < l.length), j < k → Op.bytesLess l[j] l[j + 1] = true)) (fun i _ => l.length + 1 - (intOf i).toNat)
  case atStart => exact ⟨0, rfl, Nat.zero_le _, Below.refl _ _, fun j h h0 => by omega⟩
  case round =>
    obtain ⟨k, rfl, hk, hb, ha⟩ := hrel
    by_cases hlt : k + 1 < l.length
    · obtain ⟨b, off, rfl, hc⟩ := H3.out k (by omega)
      obtain ⟨b', off', e', hc'⟩ := H3.out (k + 1) hlt
      cases e'
      have q0 := cell_keep hb.out hc
      have q1 := cell_keep hb.out hc'
      try dsimp only at q0 q1
      rw [zi_bs (by omega)] at q0
      rw [zi_bs hlt] at q1
      have Q0 := Lib.hid q0
      have Q1 := Lib.hid q1
      have i1 : ((k : Int) + 1) < l.length := by omega
      clear hc hc' q0 q1
      go_upto_region 4 with fail
      refine wp_region_ev sqT sqT_ok [⟨b, off + k, [.string (bs l[k])]⟩, ⟨b, off + (k + 1), [.string (bs l[k + 1])]⟩] (Below wr.heap.size wr) [] [(13, .ix k 0), (17, .ix (k + 1) 1)] [(19, .bool (!Op.bytesLess l[k] l[k + 1]))] (by kernel_rfl) mixed (by kernel_rfl) ((Below.refl _ _).drew)
        (obsC (fun u hu => rangeKeep (intR Q0.out) hu) (obsC (fun u hu => rangeKeep (intR Q1.out) hu) obsN)) trivial ?_
      conv => whnf
      refine And.intro (under_of (by omega)) ?_
      conv => whnf
      refine And.intro (under_of ⟨by omega, by omega, rfl, by show off + k = off + k * 1; omega⟩) ?_
      conv => whnf
      refine And.intro (under_of ⟨by omega, hlt, rfl, by show off + (k + 1) = off + (k + 1) * 1; omega⟩) ?_
      conv => whnf
      intro f1
      conv => whnf
      refine And.intro (by rw [bs_toList, bs_toList]) ?_
      conv => whnf
      intro w2 h2
      have HB2 := Lib.hid (ext_trans hb.out h2)
      clear h2
      obtain ⟨z, hz⟩ : ∃ z, Op.bytesLess l[k] l[k + 1] = z := ⟨_, rfl⟩
      have HZ := Lib.hid hz
      rw [hz]
      clear hz
      cases z
      · have HV := Lib.hid (ascB_false (l := l) fun h => by have := h k hlt; rw [HZ.out] at this; cases this)
        go_wp2_with fail
        go_ret
        exact ⟨ret_bool HV.out.symm, HB2.out⟩
      · have HA : Hid (∀ j (h : j + 1 < l.length), j < k + 1 → Op.bytesLess l[j] l[j + 1] = true) := fun j h h0 => by
          by_cases e : j = k
          · subst e; exact HZ.out
          · exact ha.out j h (by omega)
        go_wp2_with fail
        go_roundw
        case rel => exact ⟨k + 1, by go_num, by omega, HB2, HA⟩
        case measure => simp [intOf]; omega
    · have i1 : ¬ ((k : Int) + 1) < l.length := by omega
      have HV := Lib.hid (ascB_true (l := l) fun j h => ha.out j h (by omega))
      go_wp2_with fail
      go_ret
      exact ⟨ret_bool HV.out.symm, hb.out⟩
/-- three numbers side by side; a place -/
def farB (x y z : Int) : Bool := ((((decide (x < -524288) || decide (524288 < x)) || decide (y < -524288)) || decide (524288 < y)) || decide (z < -524288)) || decide (524288 < z)
set_option maxRecDepth 100000 in
theorem rfar_any (x y z : Int) (w : World) : Calls Tryz.prog 93 #[.agg #[.int .i64 x, .int .i64 y, .int .i64 z]] w (Ret w (.bool (farB x y z))) := by
  obtain ⟨W1, hW⟩ : ∃ W1, w.alloc (.cells #[.int .i64 x, .int .i64 y, .int .i64 z] 119) = W1 := ⟨_, rfl⟩
  have HW := Lib.hid hW
  have HO : Hid (ObjAt W1 w.heap.size #[.int .i64 x, .int .i64 y, .int .i64 z] 119) := by show ObjAt ..; rw [← hW]; exact ObjAt.new _ _ _
  have HB : Hid (Below w.heap.size w W1) := by show Below ..; rw [← hW]; exact (Below.refl _ _).alloc (Nat.le_refl _) _
  clear hW
  go_enter Tryz.func93, Tryz.ntmps93
  go_upto_region 1 with fail
  rw [HW.out]
  refine wp_region_et gmT gmT_ok [⟨w.heap.size, 0, [.int .i64 x, .int .i64 y, .int .i64 z]⟩] (Below W1.heap.size W1) [(1, 0)] [] [(2, .bool (farB x y z))] (by kernel_rfl) (Below.refl _ _)
    (obsC (fun u hu => rangeKeep (range_new HO.out) hu) obsN) ⟨rfl, trivial⟩ ?_
  conv => whnf
  intro f1
  conv => whnf
  refine And.intro (rfl) ?_
  conv => whnf
  intro w2 h2
  have HB2 := Lib.hid (ext_trans HB.out h2)
  go_wp2_with fail
  go_ret
  exact ⟨rfl, HB2.out⟩
def nearV (x y z : Int) : Bool := ((((decide (-524288 ≤ x) && decide (x ≤ 524288)) && decide (-524288 ≤ y)) && decide (y ≤ 524288)) && decide (-524288 ≤ z)) && decide (z ≤ 524288)
set_option maxRecDepth 100000 in
theorem rValid_any (x y z t : Int) (w : World) : Calls Tryz.prog 94 #[.agg #[.int .i64 x, .int .i64 y, .int .i64 z, .int .i64 t]] w (Ret w (.bool ((nearV x y z && decide (0 ≤ t)) && decide (t ≤ 23)))) := by
  obtain ⟨W1, hW⟩ : ∃ W1, w.alloc (.cells #[.int .i64 x, .int .i64 y, .int .i64 z, .int .i64 t] 121) = W1 := ⟨_, rfl⟩
  have HW := Lib.hid hW
  have HO : Hid (ObjAt W1 w.heap.size #[.int .i64 x, .int .i64 y, .int .i64 z, .int .i64 t] 121) := by show ObjAt ..; rw [← hW]; exact ObjAt.new _ _ _
  have HB : Hid (Below w.heap.size w W1) := by show Below ..; rw [← hW]; exact (Below.refl _ _).alloc (Nat.le_refl _) _
  clear hW
  go_enter Tryz.func94, Tryz.ntmps94
  go_upto_region 1 with fail
  rw [HW.out]
  refine wp_region_et gmT gmT_ok [⟨w.heap.size, 0, [.int .i64 x, .int .i64 y, .int .i64 z, .int .i64 t]⟩] (Below W1.heap.size W1) [(1, 0)] [] [(3, .bool (nearV x y z))] (by kernel_rfl) (Below.refl _ _)
    (obsC (fun u hu => rangeKeep (range_new HO.out) hu) obsN) ⟨rfl, trivial⟩ ?_
  conv => whnf
  intro f1
  conv => whnf
  refine And.intro (rfl) ?_
  conv => whnf
  intro w2 h2
  have HB2 := Lib.hid (ext_trans HB.out h2)
  have HO2 := Lib.hid (HO.out.keep h2)
  clear h2 HO HB HW
  obtain ⟨u, hu⟩ : ∃ u, nearV x y z = u := ⟨_, rfl⟩
  have HU := Lib.hid hu
  rw [hu]
  clear hu
  go_upto_region 2 with fail
  refine wp_region_et gmT gmT_ok [⟨w.heap.size, 0, [.int .i64 x, .int .i64 y, .int .i64 z, .int .i64 t]⟩] (Below w2.heap.size w2) [(1, 0)] [] [(2, .bool ((u && decide (0 ≤ t)) && decide (t ≤ 23)))] (by kernel_rfl) (Below.refl _ _)
    (obsC (fun u hu => rangeKeep (range_new HO2.out) hu) obsN) ⟨rfl, trivial⟩ ?_
  conv => whnf
  intro f2
  conv => whnf
  refine And.intro (rfl) ?_
  conv => whnf
  intro w3 h3
  have HB3 := Lib.hid (ext_trans HB2.out h3)
  go_wp2_with fail
  go_ret
  exact ⟨ret_bool (by rw [HU.out]), HB3.out⟩
set_option maxRecDepth 100000 in
theorem rzero_any (oa : Option Addr) (on oc : Nat) (ha : Option Addr) (hn hc : Nat) (w : World) : Calls Tryz.prog 107 #[.agg #[.slice oa on oc, .slice ha hn hc]] w (Ret w (.bool (((on : Int) == 0) && ((hn : Int) == 0)))) := by
  obtain ⟨W1, HO, HB, HW⟩ := boxS w oa on oc ha hn hc
  go_enter Tryz.func107, Tryz.ntmps107
  go_upto_region 1 with fail
  rw [HW.out]
  refine wp_region_et gmT gmT_ok [⟨w.heap.size, 0, [.slice oa on oc, .slice ha hn hc]⟩] (Below W1.heap.size W1) [(1, 0)] [] [(2, .bool (((on : Int) == 0) && ((hn : Int) == 0)))] (by kernel_rfl) (Below.refl _ _)
    (obsC (fun u hu => rangeKeep (range_new HO.out) hu) obsN) ⟨rfl, trivial⟩ ?_
  conv => whnf
  intro f1
  conv => whnf
  refine And.intro (rfl) ?_
  conv => whnf
  intro w2 h2
  have HB2 := Lib.hid (ext_trans HB.out h2)
  go_wp2_with fail
  go_ret
  exact ⟨rfl, HB2.out⟩
end Go.Proofs.YtfpnjbomlmhlpaaGreat

/- The reference's materials: gauges, grades, Check come back with a number (printed by wip/gen_gmg.py). -/
namespace Go.Proofs.YtfpnjbomlmhlpaaGreat
open Go.RowKit

def gmN : QTab := { gmT with wr := false }
theorem gmN_ok : gmN.Ok := ⟨gmFo_ok, gmSc_ok, gmAg_ok, gmEs_ok, gmLn_ok, gmEn_ok, gmSl_ok⟩
/-- a number; what is known where it is none -/
def RetZ (w : World) (P : Prop) (e : Ending) (w' : World) : Prop := ∃ z : Int, e = .returned (.int .i64 z) ∧ (z = 0 → P) ∧ Below w.heap.size w w'
theorem rName_any (s : List UInt8) (w : World) (hs : s.length ≤ maxLen) : Calls Tryz.prog 46 #[.string (bs s)] w (Ret w (.bool (nameB s))) :=
  (rIsName_any (bs s) w (by rw [bs_size]; exact hs)).mono fun e w' ⟨h1, m, h2⟩ => ⟨h1, by rw [h2]; exact below_drewN (Below.refl _ _) m⟩
theorem rId_any (s : List UInt8) (w : World) (hs : s.length ≤ 1100000) : Calls Tryz.prog 53 #[.string (bs s)] w (Ret w (.bool (idB s))) := rIsId_any (bs s) w (by rw [bs_size]; exact hs)
set_option maxRecDepth 100000 in
set_option maxHeartbeats 400000 in
theorem rgauges_any (v : Value) (l : List Int) (w : World) (h : SI w v l) : Calls Tryz.prog 86 #[v] w (RetZ w (l.length ≤ 16)) := by
  obtain ⟨a, cap, rfl, h1, h2, h3⟩ := h
  have H3 := Lib.hid h3; clear h3
  have hm : l.length ≤ 9223372036854775807 := by unfold maxLen at h2; omega
  by_cases e0 : l.length = 0
  · have i0 : ((l.length : Nat) : Int) = 0 := by omega
    go_enter Tryz.func86, Tryz.ntmps86
    go_wp2_with fail
    go_ret
    exact ⟨_, rfl, (by first | exact fun h => absurd h (by decide) | exact fun h => absurd h hy), Below.refl _ _⟩
  have i0 : ¬ ((l.length : Nat) : Int) = 0 := by omega
  by_cases e1 : 16 < l.length
  · have i1 : 16 < ((l.length : Nat) : Int) := by omega
    go_enter Tryz.func86, Tryz.ntmps86
    go_wp2_with fail
    go_ret
    exact ⟨_, rfl, (by first | exact fun h => absurd h (by decide) | exact fun h => absurd h hy), Below.refl _ _⟩
  have i1 : ¬ 16 < ((l.length : Nat) : Int) := by omega
  go_enter Tryz.func86, Tryz.ntmps86
  go_wp2_with fail
  have HL16 : Hid (l.length ≤ 16) := by show _ ≤ _; omega
  clear e0 e1 i0 i1
  go_loopw [3] (fun i wr => ∃ k : Nat, k ≤ l.length ∧ i = .int .i64 k ∧ Hid (Below w.heap.size w wr)) (fun i _ => l.length - (intOf i).toNat)
  case atStart => exact ⟨0, Nat.zero_le _, rfl, Below.refl _ _⟩
  case round =>
    obtain ⟨k, hk, rfl, hb⟩ := hrel
    by_cases hlt : k < l.length
    · obtain ⟨b, off, rfl, hc⟩ := H3.out k hlt
      obtain ⟨b', off', e', hc'⟩ := H3.out (k - 1) (by omega)
      cases e'
      have Q0 := Lib.hid (cell_keep hb.out hc)
      have Q1 := Lib.hid (cell_keep hb.out hc')
      have i1 : (k : Int) < l.length := by omega
      clear hc hc'
      go_upto_region 8 with fail
      refine wp_region_et gmN gmN_ok [⟨b, off + k, [.int .i64 (gi l k)]⟩] (Below wr.heap.size wr) [] [(18, .ix k 0), (20, .ret (.bool (inB (gi l k) 1 120)))] [(21, .bool (!inB (gi l k) 1 120))] (by kernel_rfl) (Below.refl _ _)
        (obsC (fun u hu => rangeKeep (intR Q0.out) hu) obsN) trivial ?_
      conv => whnf
      refine And.intro (under_of ⟨rfl, hlt, rfl, by show off + k = off + k * 1; omega⟩) ?_
      conv => whnf
      refine And.intro (under_of fun u hu => ret_in (rIn_any _ _ _ u) hu) ?_
      conv => whnf
      intro f1
      conv => whnf
      refine And.intro (rfl) ?_
      conv => whnf
      intro w2 h2
      have HB2 := Lib.hid (ext_trans hb.out h2)
      have R0 := Lib.hid (cell_keep h2 Q0.out)
      have R1 := Lib.hid (cell_keep h2 Q1.out)
      clear h2 Q0 Q1
      obtain ⟨z, hz⟩ : ∃ z, inB (gi l k) 1 120 = z := ⟨_, rfl⟩
      rw [hz]
      clear hz
      cases z
      · go_wp2_with fail
        go_ret
        exact ⟨_, rfl, (by first | exact fun h => absurd h (by decide) | exact fun h => absurd h hy), HB2.out⟩
      go_upto_region 10 with fail
      refine wp_region_ev gmN gmN_ok [⟨b, off + k, [.int .i64 (gi l k)]⟩, ⟨b, off + (k - 1), [.int .i64 (gi l (k - 1))]⟩] (Below w2.heap.size w2) [] [(27, .ix k 0), (32, .ix (k - 1) 1)] [(35, .bool (decide (0 < (k : Int)) && decide (gi l k ≤ gi l (k - 1))))] (by kernel_rfl) mixed (by kernel_rfl) ((Below.refl _ _).drew)
        (obsC (fun u hu => rangeKeep (intR R0.out) hu) (obsC (fun u hu => rangeKeep (intR R1.out) hu) obsN)) trivial ?_
      conv => whnf
      refine And.intro (under_of ⟨rfl, hlt, rfl, by show off + k = off + k * 1; omega⟩) ?_
      conv => whnf
      refine And.intro (under_of (by omega)) ?_
      conv => whnf
      refine And.intro ((by (conv => whnf); exact fun hg => by have hg := of_decide_eq_true hg; exact under_of (⟨by omega, by omega, rfl, by show off + (k - 1) = off + (k - 1) * 1; omega⟩))) ?_
      conv => whnf
      intro f2
      conv => whnf
      refine And.intro (rfl) ?_
      conv => whnf
      intro w3 h3
      have HB3 := Lib.hid (ext_trans HB2.out h3)
      clear h3
      obtain ⟨z, hz⟩ : ∃ z, (decide (0 < (k : Int)) && decide (gi l k ≤ gi l (k - 1))) = z := ⟨_, rfl⟩
      rw [hz]
      clear hz
      cases z
      · go_wp2_with fail
        go_roundw
        case rel => exact ⟨k + 1, by omega, by go_num, HB3⟩
        case measure => simp [intOf]; omega
      · go_wp2_with fail
        go_ret
        exact ⟨_, rfl, (by first | exact fun h => absurd h (by decide) | exact fun h => absurd h hy), HB3.out⟩
    · have i1 : ¬ (k : Int) < l.length := by omega
      go_wp2_with fail
      go_ret
      exact ⟨_, rfl, (fun _ => HL16.out), hb.out⟩
set_option maxRecDepth 100000 in
set_option maxHeartbeats 400000 in
theorem rgrades_any (v : Value) (l : List Grd) (w : World) (h : SGr w v l) (ho : ∀ x ∈ l, GrdOK w x) (hz : ∀ x ∈ l, x.name.length ≤ maxLen) : Calls Tryz.prog 45 #[v] w (RetZ w (∀ x ∈ l, x.gauges.length ≤ 16)) := by
  obtain ⟨a, cap, rfl, h1, h2, h3⟩ := h
  have H3 := Lib.hid h3
  have HO := Lib.hid ho
  have HZ := Lib.hid hz
  clear h3 ho hz
  have hm : l.length ≤ 9223372036854775807 := by unfold maxLen at h2; omega
  go_enter Tryz.func45, Tryz.ntmps45
  go_wp2_with fail
  go_loopw [3] (fun i wr => ∃ k : Nat, k ≤ l.length ∧ i = .int .i64 k ∧ Hid (Below w.heap.size w wr) ∧ Hid (∀ j, j < k → (gri l j).gauges.length ≤ 16)) (fun i _ => l.length - (intOf i).toNat)
  case atStart => exact ⟨0, Nat.zero_le _, rfl, Below.refl _ _, fun j h => by omega⟩
  case round =>
    obtain ⟨k, hk, rfl, hb, hgl⟩ := hrel
    by_cases hlt : k < l.length
    · obtain ⟨b, off, rfl, hc⟩ := H3.out k hlt
      obtain ⟨b', off', e', hc'⟩ := H3.out (k - 1) (by omega)
      cases e'
      have Q0 := Lib.hid (hc.keep hb.out)
      have Q1 := Lib.hid (hc'.keep hb.out)
      have i1 : (k : Int) < l.length := by omega
      clear hc hc'
      go_upto_region 4 with fail
      refine wp_region_et gmN gmN_ok [⟨b, off + k * 4, grCells (gri l k)⟩] (Below wr.heap.size wr) [] [(13, .ix k 0), (16, .ret (.bool (nameB (gri l k).name)))] [(17, .bool (!nameB (gri l k).name))] (by kernel_rfl) (Below.refl _ _)
        (obsC (fun u hu => rangeKeep (gr_range Q0.out) hu) obsN) trivial ?_
      conv => whnf
      refine And.intro (under_of ⟨rfl, hlt, rfl, rfl⟩) ?_
      conv => whnf
      refine And.intro (under_of fun u hu => ret_in (rName_any _ u (HZ.out _ (gri_mem hlt))) hu) ?_
      conv => whnf
      intro f1
      conv => whnf
      refine And.intro (rfl) ?_
      conv => whnf
      intro w2 h2
      have HB2 := Lib.hid (ext_trans hb.out h2)
      have R0 := Lib.hid (Q0.out.keep h2)
      have R1 := Lib.hid (Q1.out.keep h2)
      clear h2 Q0 Q1
      obtain ⟨z, hz⟩ : ∃ z, nameB (gri l k).name = z := ⟨_, rfl⟩
      rw [hz]
      clear hz
      cases z
      · go_wp2_with fail
        go_ret
        exact ⟨_, rfl, (by first | exact fun h => absurd h (by decide) | exact fun h => absurd h hy), HB2.out⟩
      go_upto_region 6 with fail
      refine wp_region_et gmN gmN_ok [⟨b, off + k * 4, grCells (gri l k)⟩] (Below w2.heap.size w2) [] [(20, .ix k 0), (23, .ret (.bool (inB (gri l k).dens 1000 20000))), (28, .ix k 0), (31, .ret (.bool (inB (gri l k).yield_ 100 1500)))] [(33, .bool (!inB (gri l k).dens 1000 20000 || !inB (gri l k).yield_ 100 1500))] (by kernel_rfl) (Below.refl _ _)
        (obsC (fun u hu => rangeKeep (gr_range R0.out) hu) obsN) trivial ?_
      conv => whnf
      refine And.intro (under_of ⟨rfl, hlt, rfl, rfl⟩) ?_
      conv => whnf
      refine And.intro (under_of fun u hu => ret_in (rIn_any _ _ _ u) hu) ?_
      conv => whnf
      refine And.intro (under_of ⟨rfl, hlt, rfl, rfl⟩) ?_
      conv => whnf
      refine And.intro (under_of fun u hu => ret_in (rIn_any _ _ _ u) hu) ?_
      conv => whnf
      intro f2
      conv => whnf
      refine And.intro (rfl) ?_
      conv => whnf
      intro w3 h3
      have HB3 := Lib.hid (ext_trans HB2.out h3)
      have S0 := Lib.hid (R0.out.keep h3)
      have S1 := Lib.hid (R1.out.keep h3)
      clear h3 R0 R1
      obtain ⟨z, hz⟩ : ∃ z, (!inB (gri l k).dens 1000 20000 || !inB (gri l k).yield_ 100 1500) = z := ⟨_, rfl⟩
      rw [hz]
      clear hz
      cases z
      rotate_left
      · go_wp2_with fail
        go_ret
        exact ⟨_, rfl, (by first | exact fun h => absurd h (by decide) | exact fun h => absurd h hy), HB3.out⟩
      have hg := HO.out _ (gri_mem hlt)
      obtain ⟨ga, gc, eg, _⟩ := id hg
      have HG := Lib.hid (hg.keep HB3.out)
      have c3 := S0.out.c3
      have HGI : Hid (SI w3 (gri l k).gv (gri l k).gauges) := HG.out
      rw [eg] at c3 HGI
      clear hg eg HG
      go_upto_region 8 with fail
      go_wp2_with fail
      refine (rgauges_any _ _ w3 HGI.out).mono ?_
      rintro e w4 ⟨y, rfl, hyl, hb4⟩
      have HB4 := Lib.hid (ext_trans HB3.out hb4)
      have T0 := Lib.hid (S0.out.keep hb4)
      have T1 := Lib.hid (S1.out.keep hb4)
      clear hb4 S0 S1 c3
      by_cases hy : y = 0
      rotate_left
      · go_wp2_with fail
        go_ret
        exact ⟨_, rfl, (by first | exact fun h => absurd h (by decide) | exact fun h => absurd h hy), HB4.out⟩
      subst hy
      have HGN : Hid (∀ j, j < k + 1 → (gri l j).gauges.length ≤ 16) := fun j hj => by
        by_cases e : j = k
        · subst e; exact hyl rfl
        · exact hgl.out j (by omega)
      clear hyl hgl
      go_upto_region 11 with fail
      refine wp_region_ev gmN gmN_ok [⟨b, off + k * 4, grCells (gri l k)⟩, ⟨b, off + (k - 1) * 4, grCells (gri l (k - 1))⟩] (Below w4.heap.size w4) [] [(48, .ix k 0), (54, .ix (k - 1) 1)] [(58, .bool (decide (0 < (k : Int)) && (Op.bytesLess (gri l k).name (gri l (k - 1)).name || (gri l k).name == (gri l (k - 1)).name)))] (by kernel_rfl) mixed (by kernel_rfl) ((Below.refl _ _).drew)
        (obsC (fun u hu => rangeKeep (gr_range T0.out) hu) (obsC (fun u hu => rangeKeep (gr_range T1.out) hu) obsN)) trivial ?_
      conv => whnf
      refine And.intro (under_of ⟨rfl, hlt, rfl, rfl⟩) ?_
      conv => whnf
      refine And.intro (under_of (by omega)) ?_
      conv => whnf
      refine And.intro ((by (conv => whnf); exact fun hg => by have hg := of_decide_eq_true hg; exact under_of (⟨by omega, by omega, rfl, rfl⟩))) ?_
      conv => whnf
      intro f3
      conv => whnf
      refine And.intro (by rw [bs_toList, bs_toList]) ?_
      conv => whnf
      intro w5 h5
      have HB5 := Lib.hid (ext_trans HB4.out h5)
      clear h5
      obtain ⟨z, hz⟩ : ∃ z, (decide (0 < (k : Int)) && (Op.bytesLess (gri l k).name (gri l (k - 1)).name || (gri l k).name == (gri l (k - 1)).name)) = z := ⟨_, rfl⟩
      rw [hz]
      clear hz
      cases z
      · go_wp2_with fail
        go_roundw
        case rel => exact ⟨k + 1, by omega, by go_num, HB5, HGN⟩
        case measure => simp [intOf]; omega
      · go_wp2_with fail
        go_ret
        exact ⟨_, rfl, (by first | exact fun h => absurd h (by decide) | exact fun h => absurd h hy), HB5.out⟩
    · have i1 : ¬ (k : Int) < l.length := by omega
      go_wp2_with fail
      go_ret
      exact ⟨_, rfl, (fun _ x hx => by obtain ⟨j, hj, rfl⟩ := mem_gri hx; exact hgl.out j (by omega)), hb.out⟩
end Go.Proofs.YtfpnjbomlmhlpaaGreat

/- The reference's materials: Check comes back with a number; Grade, Rolled (printed by wip/gen_gmh.py). -/
namespace Go.Proofs.YtfpnjbomlmhlpaaGreat
open Go.RowKit

theorem boxMat (w : World) (ga : Option Addr) (gn gc : Nat) (sa : Option Addr) (sn sc : Nat) : ∃ W1, Hid (ObjAt W1 w.heap.size #[.slice ga gn gc, .slice sa sn sc] 32) ∧ Hid (Below w.heap.size w W1) ∧ Hid (w.alloc (.cells #[.slice ga gn gc, .slice sa sn sc] 32) = W1) :=
  ⟨_, ObjAt.new _ _ _, (Below.refl _ _).alloc (Nat.le_refl _) _, rfl⟩
/-- names that are not too long -/
structure MatZ (gs : List Grd) (cs : List Sct) : Prop where
  g : ∀ x ∈ gs, x.name.length ≤ maxLen
  s : ∀ x ∈ cs, x.name.length ≤ maxLen
set_option maxRecDepth 100000 in
set_option maxHeartbeats 400000 in
theorem rChk15_any (g s : Sv) (gs : List Grd) (cs : List Sct) (w : World) (h : MatOK w g s gs cs) (hz : MatZ gs cs) : Calls Tryz.prog 15 #[.agg (matA g s)] w (RetZ w (gs.length ≤ 16 ∧ cs.length ≤ 32 ∧ ∀ x ∈ gs, x.gauges.length ≤ 16)) := by
  obtain ⟨ga, gn, gc⟩ := g
  obtain ⟨sa, sn, sc⟩ := s
  obtain rfl : gn = gs.length := h.g.n
  obtain rfl : sn = cs.length := h.s.n
  have HM := Lib.hid h
  have HZ := Lib.hid hz
  have H3 := Lib.hid (fun i (hi : i < cs.length) => h.s.at hi)
  have hlg := h.g.len
  have hls := h.s.len
  unfold maxLen at hlg hls
  clear h hz
  obtain ⟨W1, HO, HB, HW⟩ := boxMat w ga gs.length gc sa cs.length sc
  show Calls Tryz.prog 15 #[.agg #[.slice ga gs.length gc, .slice sa cs.length sc]] w _
  go_enter Tryz.func15, Tryz.ntmps15
  go_upto_region 1 with fail
  rw [HW.out]
  refine wp_region_et gmN gmN_ok [⟨w.heap.size, 0, [.slice ga gs.length gc, .slice sa cs.length sc]⟩] (Below W1.heap.size W1) [(1, 0)] [] [(15, .bool (decide (16 < (gs.length : Int)) || decide (32 < (cs.length : Int))))] (by kernel_rfl) (Below.refl _ _)
    (obsC (fun u hu => rangeKeep (range_new HO.out) hu) obsN) ⟨rfl, trivial⟩ ?_
  conv => whnf
  intro f1
  conv => whnf
  refine And.intro (rfl) ?_
  conv => whnf
  intro w2 h2
  have HB2 := Lib.hid (ext_trans HB.out h2)
  have HO2 := Lib.hid (HO.out.keep h2)
  clear h2 HO HB HW
  obtain ⟨z, hz⟩ : ∃ z, (decide (16 < (gs.length : Int)) || decide (32 < (cs.length : Int))) = z := ⟨_, rfl⟩
  rw [hz]
  have HLL : Hid (z = false → gs.length ≤ 16 ∧ cs.length ≤ 32) := fun e => by
    rw [← hz] at e
    simp only [Bool.or_eq_false_iff, decide_eq_false_iff_not] at e
    omega
  clear hz
  cases z
  rotate_left
  · go_wp2_with fail
    go_ret
    exact ⟨_, rfl, (by first | exact fun h => absurd h (by decide) | exact fun h => absurd h hy), HB2.out⟩
  have c0 := HO2.out.cell 0
  dsimp at c0
  go_upto_region 3 with fail
  go_wp2_with fail
  refine (rgrades_any _ gs w2 (HM.out.g.keep HB2.out) (fun x hx => (HM.out.go x hx).keep HB2.out) HZ.out.g).mono ?_
  rintro e w3 ⟨y, rfl, hyl, hb3⟩
  have HB3 := Lib.hid (ext_trans HB2.out hb3)
  have HO3 := Lib.hid (HO2.out.keep hb3)
  clear hb3 c0 HO2
  by_cases hy : y = 0
  rotate_left
  · go_wp2_with fail
    go_ret
    exact ⟨_, rfl, (by first | exact fun h => absurd h (by decide) | exact fun h => absurd h hy), HB3.out⟩
  subst hy
  have HALL : Hid (gs.length ≤ 16 ∧ cs.length ≤ 32 ∧ ∀ x ∈ gs, x.gauges.length ≤ 16) := ⟨(HLL.out (by trivial)).1, (HLL.out (by trivial)).2, hyl rfl⟩
  clear hyl HLL
  go_wp2_with fail
  go_loopw [4] (fun i wr => ∃ k : Nat, k ≤ cs.length ∧ i = .int .i64 k ∧ Hid (Below w3.heap.size w3 wr)) (fun i _ => cs.length - (intOf i).toNat)
  case atStart => exact ⟨0, Nat.zero_le _, rfl, Below.refl _ _⟩
  case round =>
    obtain ⟨k, hk, rfl, hb⟩ := hrel
    have HBW := Lib.hid (ext_trans HB3.out hb.out)
    have HOW := Lib.hid (HO3.out.keep hb.out)
    have c1 := HOW.out.cell 1
    dsimp at c1
    by_cases hlt : k < cs.length
    · obtain ⟨b, off, rfl, hc⟩ := H3.out k hlt
      obtain ⟨b', off', e', hc'⟩ := H3.out (k - 1) (by omega)
      cases e'
      have Q1 := Lib.hid (hc'.keep HBW.out)
      obtain ⟨d0, d1, d2, d3⟩ := hc.keep HBW.out
      obtain ⟨W4, HO4, HC4, HW4, _⟩ := copySc wr (sci cs k)
      have HB4 := Lib.hid (ext_trans hb.out HC4.out)
      have HBW4 := Lib.hid (ext_trans HBW.out HC4.out)
      have i1 : (k : Int) < cs.length := by omega
      clear hc hc'
      go_upto_region 10 with fail
      rw [HW4.out]
      clear d0 d1 d2 d3 c1 HW4
      refine wp_region_et gmN gmN_ok [⟨wr.heap.size, 0, (scA (sci cs k)).toList⟩] (Below W4.heap.size W4) [(5, 0)] [(36, .ret (.bool (nameB (sci cs k).name)))] [(37, .bool (!nameB (sci cs k).name))] (by kernel_rfl) (Below.refl _ _)
        (obsC (fun u hu => rangeKeep (range_new HO4.out) hu) obsN) ⟨rfl, trivial⟩ ?_
      conv => whnf
      refine And.intro (under_of fun u hu => ret_in (rName_any _ u (HZ.out.s _ (sci_mem hlt))) hu) ?_
      conv => whnf
      intro f2
      conv => whnf
      refine And.intro (rfl) ?_
      conv => whnf
      intro w5 h5
      have HB5 := Lib.hid (ext_trans HB4.out h5)
      have HBW5 := Lib.hid (ext_trans HBW4.out h5)
      have HO5 := Lib.hid (HO4.out.keep h5)
      clear h5 HO4
      obtain ⟨z, hz⟩ : ∃ z, nameB (sci cs k).name = z := ⟨_, rfl⟩
      rw [hz]
      clear hz
      cases z
      · go_wp2_with fail
        go_ret
        exact ⟨_, rfl, (by first | exact fun h => absurd h (by decide) | exact fun h => absurd h hy), HBW5.out⟩
      go_upto_region 12 with fail
      refine wp_region_et gmN gmN_ok [⟨wr.heap.size, 0, (scA (sci cs k)).toList⟩] (Below w5.heap.size w5) [(5, 0)] [(40, .ret (.bool (inB (sci cs k).area 1 1000000))), (45, .ret (.bool (inB (sci cs k).height 1 2000))), (51, .ret (.bool (inB (sci cs k).stock 100 32768)))] [(53, .bool ((!inB (sci cs k).area 1 1000000 || !inB (sci cs k).height 1 2000) || !inB (sci cs k).stock 100 32768))] (by kernel_rfl) (Below.refl _ _)
        (obsC (fun u hu => rangeKeep (range_new HO5.out) hu) obsN) ⟨rfl, trivial⟩ ?_
      conv => whnf
      refine And.intro (under_of fun u hu => ret_in (rIn_any _ _ _ u) hu) ?_
      conv => whnf
      refine And.intro (under_of fun u hu => ret_in (rIn_any _ _ _ u) hu) ?_
      conv => whnf
      refine And.intro (under_of fun u hu => ret_in (rIn_any _ _ _ u) hu) ?_
      conv => whnf
      intro f3
      conv => whnf
      refine And.intro (rfl) ?_
      conv => whnf
      intro w6 h6
      have HB6 := Lib.hid (ext_trans HB5.out h6)
      have HBW6 := Lib.hid (ext_trans HBW5.out h6)
      have HO6 := Lib.hid (HO5.out.keep h6)
      have HX6 := Lib.hid (HO3.out.keep HB6.out)
      clear h6 HO5
      obtain ⟨z, hz⟩ : ∃ z, ((!inB (sci cs k).area 1 1000000 || !inB (sci cs k).height 1 2000) || !inB (sci cs k).stock 100 32768) = z := ⟨_, rfl⟩
      rw [hz]
      clear hz
      cases z
      rotate_left
      · go_wp2_with fail
        go_ret
        exact ⟨_, rfl, (by first | exact fun h => absurd h (by decide) | exact fun h => absurd h hy), HBW6.out⟩
      have S1 := Lib.hid ((H3.out (k - 1) (by omega)))
      obtain ⟨b', off', e', hc'⟩ := S1.out
      cases e'
      have T1 := Lib.hid (hc'.keep HBW6.out)
      clear hc' S1
      go_upto_region 14 with fail
      refine wp_region_ev gmN gmN_ok [⟨w.heap.size, 0, [.slice ga gs.length gc, .slice (some ⟨b, off, none⟩) cs.length sc]⟩, ⟨wr.heap.size, 0, (scA (sci cs k)).toList⟩, ⟨b, off + (k - 1) * 4, scCells (sci cs (k - 1))⟩] (Below w6.heap.size w6) [(1, 0), (5, 1)] [(63, .ix (k - 1) 2)] [(67, .bool (decide (0 < (k : Int)) && (Op.bytesLess (sci cs k).name (sci cs (k - 1)).name || (sci cs k).name == (sci cs (k - 1)).name)))] (by kernel_rfl) mixed (by kernel_rfl) ((Below.refl _ _).drew)
        (obsC (fun u hu => rangeKeep (range_new HX6.out) hu) (obsC (fun u hu => rangeKeep (range_new HO6.out) hu) (obsC (fun u hu => rangeKeep (sc_range T1.out) hu) obsN))) ⟨rfl, rfl, trivial⟩ ?_
      conv => whnf
      refine And.intro (under_of (by omega)) ?_
      conv => whnf
      refine And.intro ((by (conv => whnf); exact fun hg => by have hg := of_decide_eq_true hg; exact under_of (⟨by omega, by omega, rfl, rfl⟩))) ?_
      conv => whnf
      intro f4
      conv => whnf
      refine And.intro (by rw [bs_toList, bs_toList]) ?_
      conv => whnf
      intro w7 h7
      have HB7 := Lib.hid (ext_trans HB6.out h7)
      have HBW7 := Lib.hid (ext_trans HBW6.out h7)
      clear h7
      obtain ⟨z, hz⟩ : ∃ z, (decide (0 < (k : Int)) && (Op.bytesLess (sci cs k).name (sci cs (k - 1)).name || (sci cs k).name == (sci cs (k - 1)).name)) = z := ⟨_, rfl⟩
      rw [hz]
      clear hz
      cases z
      · go_wp2_with fail
        go_roundw
        case rel => exact ⟨k + 1, by omega, by go_num, HB7⟩
        case measure => simp [intOf]; omega
      · go_wp2_with fail
        go_ret
        exact ⟨_, rfl, (by first | exact fun h => absurd h (by decide) | exact fun h => absurd h hy), HBW7.out⟩
    · have i1 : ¬ (k : Int) < cs.length := by omega
      go_wp2_with fail
      go_ret
      exact ⟨_, rfl, (fun _ => HALL.out), HBW.out⟩
end Go.Proofs.YtfpnjbomlmhlpaaGreat

/- The reference's materials: Grade, Rolled (printed by wip/gen_gmi.py). -/
namespace Go.Proofs.YtfpnjbomlmhlpaaGreat
open Go.RowKit

theorem SI_rows {w w' : World} {v : Value} {xs : List Int} (h : SI w v xs) (hk : ∀ p, v.ownBlock = some p → w'.heap[p]? = w.heap[p]?) : SI w' v xs := by
  obtain ⟨a, cap, rfl, h1, h2, h3⟩ := h
  refine ⟨a, cap, rfl, h1, h2, fun i hi => ?_⟩
  obtain ⟨b, off, rfl, hc⟩ := h3 i hi
  exact ⟨b, off, rfl, by unfold World.cell? at hc ⊢; rw [hk b rfl]; exact hc⟩
theorem one0_gr : (grA default).all (·.oneCell') = true := by kernel_rfl
theorem one_gr {w : World} {x : Grd} (h : GrdOK w x) : (grA x).all (·.oneCell') = true := by
  obtain ⟨a, c, e, _⟩ := id h
  simp [grA, e, Value.oneCell']
theorem info_gr : (Tryz.prog.info? 154).map (·.size) = some 4 := by kernel_rfl
theorem load_gr {w : World} {b : Nat} {x : Grd} {e : TypeId} (h : ObjAt w b (grA x) e) : (loadVar 154 ⟨b, 0, none⟩).run Tryz.prog w = .ok (.agg (grA x)) w := run_loadVar_row (P := Tryz.prog) w b e 154 (grA x) (0, 0) _ h Tryz.underlying154 rfl info_gr
/-- it comes back with a grade and a truth value -/
def RetG (w : World) (e : Ending) (w' : World) : Prop := ∃ (x : Grd) (b : Bool), e = .returned (.tuple #[.agg (grA x), .bool b]) ∧ GrdOK w' x ∧ Below w.heap.size w w'
set_option maxRecDepth 100000 in
set_option maxHeartbeats 400000 in
theorem rGrade_any (g s : Sv) (gs : List Grd) (cs : List Sct) (name : List UInt8) (w : World) (h : MatOK w g s gs cs) (hgl : ∀ x ∈ gs, x.gauges.length ≤ 1000000) : Calls Tryz.prog 95 #[.agg (matA g s), .string (bs name)] w (RetG w) := by
  obtain ⟨ga, gn, gc⟩ := g
  obtain ⟨sa, sn, sc⟩ := s
  obtain rfl : gn = gs.length := h.g.n
  obtain rfl : sn = cs.length := h.s.n
  have HM := Lib.hid h
  have HGL := Lib.hid hgl
  have H3 := Lib.hid (fun i (hi : i < gs.length) => h.g.at hi)
  have hlg := h.g.len
  have hls := h.s.len
  unfold maxLen at hlg hls
  clear h hgl
  obtain ⟨W1, HO, HR, HB, HW⟩ := two_box w #[.slice ga gs.length gc, .slice sa cs.length sc] #[.string ⟨#[]⟩, .int .i64 0, .int .i64 0, .slice none 0 0] 32 154
  show Calls Tryz.prog 95 #[.agg #[.slice ga gs.length gc, .slice sa cs.length sc], .string (bs name)] w _
  go_enter Tryz.func95, Tryz.ntmps95
  go_upto_region 1 with fail
  rw [HW.out]
  clear HW
  go_wp2_with fail
  go_loopw [6] (fun i wr => ∃ k : Nat, k ≤ gs.length ∧ i = .int .i64 k ∧ Hid (Below W1.heap.size W1 wr)) (fun i _ => gs.length - (intOf i).toNat)
  case atStart => exact ⟨0, Nat.zero_le _, rfl, Below.refl _ _⟩
  case round =>
    obtain ⟨k, hk, rfl, hb⟩ := hrel
    have HOW := Lib.hid (HO.out.keep hb.out)
    have HRW := Lib.hid (HR.out.keep hb.out)
    have HBW := Lib.hid (ext_trans HB.out hb.out)
    have c1 := HOW.out.cell 0
    dsimp at c1
    by_cases hlt : k < gs.length
    · obtain ⟨b, off, rfl, hc⟩ := H3.out k hlt
      have HC := Lib.hid (hc.keep HBW.out)
      have i1 : (k : Int) < gs.length := by omega
      have c2 := HC.out.c0
      clear hc
      obtain ⟨z, hz⟩ : ∃ z, ((bs (gri gs k).name).toList == (bs name).toList) = z := ⟨_, rfl⟩
      cases z
      · go_wp2_with fail
        go_roundw
        case rel => exact ⟨k + 1, by omega, by go_num, hb⟩
        case measure => simp [intOf]; omega
      · have hgo := (HM.out.go _ (gri_mem hlt)).keep HBW.out
        have HGO : Hid (SI wr (gri gs k).gv (gri gs k).gauges) := hgo
        obtain ⟨va, vc, ev, v1, v2, _⟩ := id hgo
        obtain ⟨d0, d1, d2, d3⟩ := HC.out
        rw [ev] at d3 HGO
        have HLN := Lib.hid (HGL.out _ (gri_mem hlt))
        obtain ⟨W2, hW2⟩ : ∃ W2, wr.alloc (.cells #[.string (bs (gri gs k).name), .int .i64 (gri gs k).dens, .int .i64 (gri gs k).yield_, .slice va (gri gs k).gauges.length vc] 154) = W2 := ⟨_, rfl⟩
        have HO2 : Hid (ObjAt W2 wr.heap.size #[.string (bs (gri gs k).name), .int .i64 (gri gs k).dens, .int .i64 (gri gs k).yield_, .slice va (gri gs k).gauges.length vc] 154) := by show ObjAt ..; rw [← hW2]; exact ObjAt.new _ _ _
        have HB2 : Hid (Below wr.heap.size wr W2) := by show Below ..; rw [← hW2]; exact (Below.refl _ _).alloc (Nat.le_refl _) _
        have HZ2 : Hid (W2.heap.size = wr.heap.size + 1) := by show _ = _; rw [← hW2]; simp
        have HG2 := Lib.hid (SI.keep HGO.out HB2.out)
        have HW2 := Lib.hid hW2
        clear hW2 hgo ev c2
        go_upto_region 6 with fail
        rw [HW2.out]
        clear d0 d1 d2 d3 c1 HW2
        have e3 := (HO2.out.alloc (.cells #[] 3)).cell 3
        dsimp at e3
        have HE := Lib.hid (OwnI_empty W2 W2.heap.size (Nat.le_refl _))
        go_wp2_with (at_builtin; refine wpList_app_int rfl (.tmp 28) (.tmp 30) rfl W2.heap.size _ _ [] (gri gs k).gauges rfl rfl HE.out (HG2.out.alloc _) (by have := HLN.out; simp; omega) (by simp) ?_)
        intro va' wa hoa hga _
        obtain ⟨ua, uc, rfl, u1, u2, u3⟩ := id hoa.si
        have HOA := Lib.hid hoa
        have hga' : Below wr.heap.size wr wa := (HB2.out.alloc HB2.out.size _).grown hga (by rw [size_alloc]; have := HB2.out.size; omega) (fun q hq => by
          have : W2.heap.size = q := Option.some.inj hq
          have := HB2.out.size
          omega)
        have HGA := Lib.hid hga'
        have HO3 : Hid (ObjAt wa wr.heap.size #[.string (bs (gri gs k).name), .int .i64 (gri gs k).dens, .int .i64 (gri gs k).yield_, .slice va (gri gs k).gauges.length vc] 154) := (HO2.out.alloc _).grown hga (fun e => by
          have : W2.heap.size = wr.heap.size := Option.some.inj e
          have := HZ2.out
          omega)
        have f0 := HO3.out.cell 0
        have f3 := HO3.out.cell 3
        have f4 := HO3.out.frozen 3
        dsimp at f0 f3
        clear e3 u1 u2 u3 hoa hga hga'
        go_upto_region 7 with fail
        clear f0 f3 f4
        obtain ⟨x', hx'⟩ : ∃ x' : Grd, x' = ⟨(gri gs k).name, (gri gs k).dens, (gri gs k).yield_, .slice ua (gri gs k).gauges.length uc, (gri gs k).gauges⟩ := ⟨_, rfl⟩
        have HX : Hid (grA x' = #[.string (bs (gri gs k).name), .int .i64 (gri gs k).dens, .int .i64 (gri gs k).yield_, .slice ua (gri gs k).gauges.length uc]) := by show _ = _; rw [hx']; rfl
        have HX1 : Hid ((grA x').all (·.oneCell') = true) := by show _ = _; rw [HX.out]; simp [Value.oneCell']
        have HXS : Hid (x'.gv = .slice ua (gri gs k).gauges.length uc ∧ x'.gauges = (gri gs k).gauges) := by show _ ∧ _; rw [hx']; exact ⟨rfl, rfl⟩
        have HXZ : Hid ((grA default).size = (grA x').size) := by show _ = _; rw [HX.out]; rfl
        have HXI : Hid ((Tryz.prog.info? 154).map (·.size) = some (grA x').size) := by show _ = _; rw [HX.out]; exact info_gr
        clear hx'
        obtain ⟨W5, hW5⟩ : ∃ W5, wa.setCell ⟨wr.heap.size, 3, none⟩ (.slice ua (gri gs k).gauges.length uc) = W5 := ⟨_, rfl⟩
        have HO5 : Hid (ObjAt W5 wr.heap.size #[.string (bs (gri gs k).name), .int .i64 (gri gs k).dens, .int .i64 (gri gs k).yield_, .slice ua (gri gs k).gauges.length uc] 154) := by show ObjAt ..; rw [← hW5]; exact HO3.out.set 3 _
        have HB5 : Hid (Below wr.heap.size wr W5) := by show Below ..; rw [← hW5]; exact below_setCell HGA.out (Nat.le_refl _) _ _
        have HK5 : Hid (∀ p, W2.heap.size ≤ p → W5.heap[p]? = wa.heap[p]?) := fun p hp => by rw [← hW5]; exact Below.heap_setCell _ _ _ _ (fun e => by have := HZ2.out; have e2 : p = wr.heap.size := e; omega)
        have HR5 := Lib.hid (HRW.out.keep HB5.out)
        have HBW5 := Lib.hid (ext_trans HBW.out HB5.out)
        rw [hW5]
        clear hW5 HO3 HGA
        have f0 := HO5.out.cell 0
        have f1 := HO5.out.cell 1
        have f2 := HO5.out.cell 2
        have f3 := HO5.out.cell 3
        dsimp at f0 f1 f2 f3
        go_wp2_with (refine at_store ?_; refine wpList_store_row (o := ⟨none, .store _ _ _, _, _, _, _⟩) rfl 154 (.tmp 4) (.tmp 33) rfl (w.heap.size + 1) (grA x') rfl (congrArg Value.agg HX.out.symm) 154 _ HR5.out HXI.out HXZ.out HX1.out ?_)
        refine bodyPost_ret (v := .tuple #[.agg (grA x'), .bool true]) (results_cell Tryz.results95 rfl rfl (load_gr (setRow_heap _ _ _ _ _ _ HR5.out))) rfl ?_
        refine ⟨x', true, rfl, ?_, below_setRow HBW5.out (by omega) _⟩
        show SI _ x'.gv x'.gauges
        rw [HXS.out.1, HXS.out.2]
        refine SI_rows (OwnI.si HOA.out) fun p hp => ?_
        have hlt := (World.ownsRow.lt HOA.out p hp).1
        rw [← HK5.out p hlt]
        refine setRow_other _ _ _ _ ?_
        have h1 := HZ2.out
        have h2 := HBW.out.size
        have h3 := HR.out.lt
        have h4 := hb.out.size
        omega
    · have i1 : ¬ (k : Int) < gs.length := by omega
      go_wp2_with (refine at_store ?_; refine wpList_store_row (o := ⟨none, .store _ _ _, _, _, _, _⟩) rfl 154 (.tmp 4) (.tmp 34) rfl (w.heap.size + 1) (grA default) rfl rfl 154 _ HRW.out info_gr rfl one0_gr ?_)
      refine bodyPost_ret (v := .tuple #[.agg (grA default), .bool false]) (results_cell Tryz.results95 rfl rfl (load_gr (setRow_heap _ _ _ _ _ _ HRW.out))) rfl ?_
      exact ⟨default, false, rfl, ⟨none, 0, rfl, Nat.le_refl _, Nat.zero_le _, fun i hi => absurd hi (Nat.not_lt_zero _)⟩, below_setRow HBW.out (by omega) _⟩
end Go.Proofs.YtfpnjbomlmhlpaaGreat

/- contours, Area2 of the reference's regions; Rolled of its materials (printed by wip/gen_gmj.py). -/
namespace Go.Proofs.YtfpnjbomlmhlpaaGreat
open Go.RowKit

theorem Tryz_infopts : (Tryz.prog.info? 114).map (fun i => (i.zero, i.size, i.bytes)) = some (some (.slice none 0 0), 1, 24) := by kernel_rfl
theorem run_app_pp {w : World} {B : Nat} {v u : Value} {vs us : List Value} (ty : TypeId) (hown : w.ownsRow B 114 1 v vs.length vs) (hs : Sl w u us.length fun i => us.getD i default) (h1 : ∀ y ∈ us, y.oneCell' = true) (hlen : vs.length + us.length ≤ 1000000) (hb : B ≤ w.heap.size) :
    ∃ v' w', (Builtin.append_ #[115, 115] ty #[v, u]).run Tryz.prog w = .ok v' w' ∧ w'.ownsRow B 114 1 v' (vs ++ us).length (vs ++ us) ∧ w.grownBy w' v.ownBlock := by
  obtain ⟨i, hi, hz0, hz1, hz2⟩ := info_parts Tryz_infopts
  obtain ⟨a, cap, rfl, g1, g2, g3⟩ := hs
  cases a with
  | none =>
    have hx : us = [] := by
      cases us with
      | nil => rfl
      | cons x xs => obtain ⟨b, off, ha, _⟩ := g3 0 (by simp); cases ha
    subst hx
    exact ⟨v, w, run_append_zero _ _ i Tryz.underlying115 hi hown cap, by simpa using hown, World.grownBy.refl _ _⟩
  | some ad =>
    have hnews : ∀ j x, us[j]? = some x → w.cell? (ad.add j) = some x := by
      intro j x hj
      obtain ⟨hjl, hjx⟩ := List.getElem?_eq_some_iff.1 hj
      obtain ⟨b, off, ha, hc⟩ := g3 j hjl
      simp at ha
      subst ha
      have hadd : (⟨b, off, none⟩ : Addr).add j = ⟨b, off + j, none⟩ := by unfold Addr.add; split <;> simp_all
      rw [hadd, hc]
      simp [hj]
    obtain ⟨v', w', hr, ho, hg, _, hat⟩ := run_append_own_at (P := Tryz.prog) w B 115 ty 114 i (.slice none 0 0) 1 24 Tryz.underlying115 hi hz0 hz1 hz2 rfl (by decide) v vs.length vs hown ad us.length cap us (by simp) hnews h1
      (by unfold maxLen; omega) (by omega) hb
    exact ⟨v', w', hr, by rw [List.length_append]; exact ho, hg⟩
theorem wpList_app_pp {ops : Array Oper} {rest : List Oper} {o : Oper} {a : Act} {Q : Exit → Act → World → Prop} {w : World} (hw : Region.wanted o (yielded ops a.tmps) = true) (s x : Operand)
    (ho : o.op = .call { callee := .builtin .append, args := #[s, x], argTypes := #[115, 115] })
    (B : Nat) (v u : Value) (vs us : List Value) (hs : a.eval s = v) (hx : a.eval x = u) (hown : w.ownsRow B 114 1 v vs.length vs) (hsrc : Sl w u us.length fun i => us.getD i default) (h1 : ∀ y ∈ us, y.oneCell' = true) (hlen : vs.length + us.length ≤ 1000000) (hb : B ≤ w.heap.size)
    (h : ∀ v' w', w'.ownsRow B 114 1 v' (vs ++ us).length (vs ++ us) → w.grownBy w' v.ownBlock → wpList Tryz.prog ops Q rest (a.put o.dst v') w') : wpList Tryz.prog ops Q (o :: rest) a w :=
  wpList_step fun K hK => by
    rw [if_pos hw]
    obtain ⟨v', w', hr, h2, h3⟩ := run_app_pp o.type hown hsrc h1 hlen hb
    unfold Oper.wp execOp
    simp only [ho, resolve, invoke, builtin, Sem.run_bind, Sem.run_pure, Result.andThen_ok, List.map_toArray, List.map_cons, List.map_nil, hs, hx, hr]
    exact hK _ _ (h v' w' h2 h3)
theorem ShpOK.one {w : World} {ov hv : Value} {outer : List Pnt} {holes : List (List Pnt)} {hvs : List Value} (h : ShpOK w ov hv outer holes hvs) : ∀ y ∈ hvs, y.oneCell' = true := fun y hy => by
  obtain ⟨j, hj, rfl⟩ := List.mem_iff_getElem.1 hy
  obtain ⟨a, c, e, _⟩ := h.h j (by rw [← h.n]; exact hj)
  have e2 : hvs.getD j default = hvs[j] := by simp [hj]
  rw [← e2, e]; rfl
/-- all contours -/
def RetC (w : World) (ov : Value) (hvs : List Value) (e : Ending) (w' : World) : Prop := ∃ v, e = .returned v ∧ (Sl w' v (ov :: hvs).length fun i => (ov :: hvs).getD i undef) ∧ Below w.heap.size w w'
set_option maxRecDepth 100000 in
set_option maxHeartbeats 400000 in
theorem rcontours_any (ov hv : Value) (outer : List Pnt) (holes : List (List Pnt)) (hvs : List Value) (w : World) (h : ShpOK w ov hv outer holes hvs) (hl : hvs.length ≤ 1000) : Calls Tryz.prog 113 #[.agg #[ov, hv]] w (RetC w ov hvs) := by
  have H1 := Lib.hid h.one
  have HS := Lib.hid h.hs
  have HLN := Lib.hid hl
  obtain ⟨oa, oc, rfl, o1, o2, _⟩ := h.o
  obtain ⟨ha, hc, rfl, s1, s2, _⟩ := h.hs
  clear h o1 o2 s1 s2 hl
  obtain ⟨W1, HS1, HB1, HW1⟩ := boxS w oa outer.length oc ha hvs.length hc
  obtain ⟨W2, hW2⟩ : ∃ W2, W1.alloc (.cells #[.slice oa outer.length oc] 114) = W2 := ⟨_, rfl⟩
  have HB2 : Hid (Below w.heap.size w W2) := by show Below ..; rw [← hW2]; exact HB1.out.alloc HB1.out.size _
  have HO2 : Hid (W2.ownsRow w.heap.size 114 1 (.slice (some ⟨W1.heap.size, 0, none⟩) 1 1) [(.slice oa outer.length oc : Value)].length [.slice oa outer.length oc]) := by
    show World.ownsRow ..
    rw [← hW2]
    exact World.ownsRow_lit W1 #[.slice oa outer.length oc] 1 HB1.out.size (by unfold maxLen; omega) rfl
  have HS2 := Lib.hid (Sl.keep HS.out HB2.out)
  have HS1' : Hid (ObjAt W2 w.heap.size #[.slice oa outer.length oc, .slice ha hvs.length hc] 117) := by show ObjAt ..; rw [← hW2]; exact HS1.out.alloc _
  have HW2 := Lib.hid hW2
  clear hW2
  go_enter Tryz.func113, Tryz.ntmps113
  go_upto_region 1 with fail
  rw [HW1.out]
  have c0 := HS1.out.cell 0
  have c1 := HS1'.out.cell 1
  dsimp at c0 c1
  rw [← HW2.out] at c1
  go_wp2_with (at_builtin; rw [HW2.out]; refine wpList_app_pp rfl (.tmp 5) (.tmp 7) rfl w.heap.size _ _ [.slice oa outer.length oc] hvs rfl rfl HO2.out HS2.out H1.out (by have := HLN.out; simp; omega) HB2.out.size ?_)
  intro va wa hoa hga
  have HOA := Lib.hid (Sl_of_owns hoa)
  have HBA := Lib.hid (HB2.out.grown hga HB2.out.size (fun q hq => by
    have e : W1.heap.size = q := Option.some.inj hq
    have := HB1.out.size
    omega))
  clear hoa hga c0 c1
  go_wp2_with fail
  go_ret
  exact ⟨_, rfl, HOA.out, HBA.out⟩
set_option maxRecDepth 100000 in
set_option maxHeartbeats 400000 in
theorem rArea13_any (ov hv : Value) (outer : List Pnt) (holes : List (List Pnt)) (hvs : List Value) (w : World) (h : ShpOK w ov hv outer holes hvs) : Calls Tryz.prog 97 #[.agg #[ov, hv]] w (RetN w) := by
  have HH := Lib.hid h
  obtain ⟨oa, oc, rfl, o1, o2, _⟩ := h.o
  obtain ⟨ha, hc, rfl, s1, s2, _⟩ := h.hs
  clear h o1 o2 s1 s2
  obtain ⟨W1, HS1, HB1, HW1⟩ := boxS w oa outer.length oc ha hvs.length hc
  by_cases hf : 8 < hvs.length
  · go_enter Tryz.func97, Tryz.ntmps97
    go_upto_region 1 with fail
    rw [HW1.out]
    have c0 := HS1.out.cell 0
    have c1 := HS1.out.cell 1
    dsimp at c0 c1
    go_wp2_with fail
    refine (rChk13_full _ _ outer holes hvs W1 (HH.out.keep HB1.out) hf).mono ?_
    rintro e w2 ⟨y, hy, rfl, hb2⟩
    have HB2 := Lib.hid (ext_trans HB1.out hb2)
    clear hb2 c0 c1
    go_wp2_with fail
    go_ret
    exact ⟨_, rfl, HB2.out⟩
  have HLN : Hid (hvs.length ≤ 1000) := by show _ ≤ _; omega
  clear hf
  go_enter Tryz.func97, Tryz.ntmps97
  go_upto_region 1 with fail
  rw [HW1.out]
  have c0 := HS1.out.cell 0
  have c1 := HS1.out.cell 1
  dsimp at c0 c1
  go_wp2_with fail
  refine (rChk13_any _ _ outer holes hvs W1 (HH.out.keep HB1.out)).mono ?_
  rintro e w2 ⟨y, rfl, hb2⟩
  have HB2 := Lib.hid (ext_trans HB1.out hb2)
  have HS2 := Lib.hid (HS1.out.keep hb2)
  clear hb2 c0 c1
  by_cases hy : y = 0
  rotate_left
  · go_wp2_with fail
    go_ret
    exact ⟨_, rfl, HB2.out⟩
  subst hy
  have c0 := HS2.out.cell 0
  have c1 := HS2.out.cell 1
  dsimp at c0 c1
  go_wp2_with fail
  refine (rcontours_any _ _ outer holes hvs w2 (HH.out.keep HB2.out) HLN.out).mono ?_
  rintro e w3 ⟨v, rfl, hv, hb3⟩
  have HB3 := Lib.hid (ext_trans HB2.out hb3)
  obtain ⟨va, vc, rfl, v1, v2, v3⟩ := hv
  have V3 := Lib.hid v3
  have hvl : ((Value.slice oa outer.length oc) :: hvs).length ≤ 1001 := by have := HLN.out; simp; omega
  obtain ⟨n, hn⟩ : ∃ n, ((Value.slice oa outer.length oc) :: hvs).length = n := ⟨_, rfl⟩
  have HN := Lib.hid hn
  rw [hn] at V3 hvl ⊢
  clear v3 v1 v2 hn c0 c1 hb3
  go_wp2_with fail
  go_loopw [3, 5] (fun s i wr => ∃ (k : Nat) (t : Int), k ≤ n ∧ i = .int .i64 k ∧ s = .int .i64 t ∧ Hid (Below w3.heap.size w3 wr)) (fun _ i _ => n - (intOf i).toNat)
  case atStart => exact ⟨0, 0, Nat.zero_le _, rfl, rfl, Below.refl _ _⟩
  case round =>
    obtain ⟨k, t, hk, rfl, rfl, hb⟩ := hrel
    have HBW := Lib.hid (ext_trans HB3.out hb.out)
    by_cases hlt : k < n
    · have i1 : (k : Int) < n := by omega
      obtain ⟨b, off, rfl, hc⟩ := V3.out k hlt
      have hc := cell_keep hb.out hc
      have HP : Hid (∃ l, SPt wr (((Value.slice oa outer.length oc) :: hvs).getD k undef) l) := by
        cases k with
        | zero => exact ⟨outer, HH.out.o.keep HBW.out⟩
        | succ j =>
          have hj : j < hvs.length := by have := HN.out; rw [List.length_cons] at this; omega
          have e : ((Value.slice oa outer.length oc) :: hvs).getD (j + 1) undef = hvs.getD j default := by simp [hj]
          rw [e]
          exact ⟨_, (HH.out.h j (by rw [← HH.out.n]; exact hj)).keep HBW.out⟩
      obtain ⟨l, hp⟩ := HP.out
      have HPL := Lib.hid hp
      obtain ⟨pa, pc, ep, _⟩ := id hp
      rw [ep] at HPL
      try dsimp only at hc
      rw [ep] at hc
      clear hp ep HP
      go_upto_region 8 with fail
      go_wp2_with fail
      refine (rArea12_any _ l wr HPL.out).mono ?_
      rintro e w4 ⟨rfl, hb4⟩
      have HB4 := Lib.hid (ext_trans hb.out hb4)
      clear hb4 hc
      go_wp2_with fail
      go_roundw
      case rel => exact ⟨k + 1, _, by omega, by go_num, rfl, HB4⟩
      case measure => simp [intOf]; omega
    · have i1 : ¬ (k : Int) < n := by omega
      go_wp2_with fail
      go_ret
      exact ⟨_, rfl, HBW.out⟩
/-- it comes back with a truth value -/
def RetB (w : World) (e : Ending) (w' : World) : Prop := ∃ b : Bool, e = .returned (.bool b) ∧ Below w.heap.size w w'
set_option maxRecDepth 100000 in
set_option maxHeartbeats 400000 in
theorem rRolled_any (g s : Sv) (gs : List Grd) (cs : List Sct) (name : List UInt8) (t : Int) (w : World) (h : MatOK w g s gs cs) (hgl : ∀ x ∈ gs, x.gauges.length ≤ 1000000) : Calls Tryz.prog 108 #[.agg (matA g s), .string (bs name), .int .i64 t] w (RetB w) := by
  have HM := Lib.hid h
  have HGL := Lib.hid hgl
  clear h hgl
  obtain ⟨W1, HO, HB, HW⟩ := boxMat w g.a g.n g.c s.a s.n s.c
  show Calls Tryz.prog 108 #[.agg #[.slice g.a g.n g.c, .slice s.a s.n s.c], .string (bs name), .int .i64 t] w _
  go_enter Tryz.func108, Tryz.ntmps108
  go_upto_region 1 with fail
  rw [HW.out]
  have c0 := HO.out.cell 0
  have c1 := HO.out.cell 1
  dsimp at c0 c1
  go_wp2_with fail
  refine (rGrade_any g s gs cs name W1 (HM.out.keep HB.out) HGL.out).mono ?_
  rintro e w2 ⟨⟨xn, xd, xy, xv, xg⟩, b, rfl, hx, hb2⟩
  have hx : SI w2 xv xg := hx
  have HX := Lib.hid hx
  obtain ⟨va, vc, rfl, v1, v2, v3⟩ := hx
  have HB2 := Lib.hid (ext_trans HB.out hb2)
  have hm : xg.length ≤ 9223372036854775807 := by unfold maxLen at v2; omega
  clear v1 v2 v3 hb2 c0 c1
  obtain ⟨W3, hW3⟩ : ∃ W3, w2.alloc (.cells #[.string (bs xn), .int .i64 xd, .int .i64 xy, .slice va xg.length vc] 154) = W3 := ⟨_, rfl⟩
  have HO3 : Hid (ObjAt W3 w2.heap.size #[.string (bs xn), .int .i64 xd, .int .i64 xy, .slice va xg.length vc] 154) := by show ObjAt ..; rw [← hW3]; exact ObjAt.new _ _ _
  have HB3 : Hid (Below w.heap.size w W3) := by show Below ..; rw [← hW3]; exact HB2.out.alloc HB2.out.size _
  have HX3 : Hid (SI W3 (.slice va xg.length vc) xg) := by show SI ..; rw [← hW3]; exact HX.out.alloc _
  have HW3 := Lib.hid hW3
  clear hW3 HX
  simp only [grA]
  go_upto_region 2 with fail
  rw [HW3.out]
  clear HW3
  obtain ⟨va', vc', ev, _, _, v3⟩ := HX3.out
  cases ev
  have V3 := Lib.hid v3
  clear v3
  go_wp2_with fail
  go_loopw [9] (fun i wr => ∃ k : Nat, k ≤ xg.length ∧ i = .int .i64 k ∧ Hid (Below W3.heap.size W3 wr)) (fun i _ => xg.length - (intOf i).toNat)
  case atStart => exact ⟨0, Nat.zero_le _, rfl, Below.refl _ _⟩
  case round =>
    obtain ⟨k, hk, rfl, hb⟩ := hrel
    have HBW := Lib.hid (ext_trans HB3.out hb.out)
    have c3 := (HO3.out.keep hb.out).cell 3
    dsimp at c3
    by_cases hlt : k < xg.length
    · have i1 : (k : Int) < xg.length := by omega
      obtain ⟨pb, po, rfl, hc⟩ := V3.out k hlt
      have c4 := cell_keep hb.out hc
      clear hc
      by_cases he : gi xg k = t
      · go_wp2_with fail
        go_ret
        exact ⟨_, rfl, HBW.out⟩
      · go_wp2_with fail
        go_roundw
        case rel => exact ⟨k + 1, by omega, by go_num, hb⟩
        case measure => simp [intOf]; omega
    · have i1 : ¬ (k : Int) < xg.length := by omega
      go_wp2_with fail
      go_ret
      exact ⟨_, rfl, HBW.out⟩
end Go.Proofs.YtfpnjbomlmhlpaaGreat

/- The reference's parts: spare, known come back with a truth value (printed by wip/gen_gmk.py). -/
namespace Go.Proofs.YtfpnjbomlmhlpaaGreat
open Go.RowKit

theorem one_box (w : World) (A : Array Value) (t : TypeId) : ∃ W, Hid (ObjAt W w.heap.size A t) ∧ Hid (Below w.heap.size w W) ∧ Hid (w.alloc (.cells A t) = W) := ⟨_, ObjAt.new _ _ _, (Below.refl _ _).alloc (Nat.le_refl _) _, rfl⟩
theorem zero_vec (w : World) : (Instr.build 119 #[]).run Tryz.prog w = .ok (.agg #[.int .i64 0, .int .i64 0, .int .i64 0]) w := by go_simp
theorem neq_vec (a b c : Int) (t : TypeId) (x y : Operand) (w : World) (ht : t = 119) : (eqGuard .neq t x y (.agg #[.int .i64 a, .int .i64 b, .int .i64 c]) (.agg #[.int .i64 0, .int .i64 0, .int .i64 0])).run Tryz.prog w = .ok () w ∧ (binOp .neq t (.agg #[.int .i64 a, .int .i64 b, .int .i64 c]) (.agg #[.int .i64 0, .int .i64 0, .int .i64 0])).run Tryz.prog w = .ok (.bool (!(decide (a = 0 ∧ b = 0 ∧ c = 0)))) w := by
  subst ht
  refine ⟨by go_simp, ?_⟩
  go_simp
  by_cases h1 : a = 0 <;> by_cases h2 : b = 0 <;> by_cases h3 : c = 0 <;> simp [h1, h2, h3]
set_option maxRecDepth 100000 in
set_option maxHeartbeats 400000 in
theorem rspare_any (x : Prt) (w : World) (h : PrtOK w x) : Calls Tryz.prog 90 #[.agg (prA x)] w (RetB w) := by
  have HP := Lib.hid h.shp
  obtain ⟨id, rev, kd, nd, gr, th, ov, hv, sc, ln, ms, cx, cy, cz, ax, ay, az, tn, outer, holes, hvs⟩ := x
  have HP : Hid (ShpOK w ov hv outer holes hvs) := HP
  obtain ⟨oa, oc, rfl, o1, o2, _⟩ := HP.out.o
  obtain ⟨ha, hc, rfl, s1, s2, _⟩ := HP.out.hs
  clear h o1 s1
  unfold maxLen at o2 s2
  show Calls Tryz.prog 90 #[.agg #[.string (bs id), .int .i64 rev, .int .i64 kd, .string (bs nd), .string (bs gr), .int .i64 th, .slice oa outer.length oc, .slice ha hvs.length hc, .string (bs sc), .int .i64 ln, .int .i64 ms, .int .i64 cx, .int .i64 cy, .int .i64 cz, .int .i64 ax, .int .i64 ay, .int .i64 az, .int .i64 tn]] w _
  obtain ⟨W1, HO, HB, HW⟩ := one_box w #[.string (bs id), .int .i64 rev, .int .i64 kd, .string (bs nd), .string (bs gr), .int .i64 th, .slice oa outer.length oc, .slice ha hvs.length hc, .string (bs sc), .int .i64 ln, .int .i64 ms, .int .i64 cx, .int .i64 cy, .int .i64 cz, .int .i64 ax, .int .i64 ay, .int .i64 az, .int .i64 tn] 123
  go_enter Tryz.func90, Tryz.ntmps90
  go_upto_region 1 with fail
  rw [HW.out]
  clear HW
  refine wp_region_et gmT gmT_ok [⟨w.heap.size, 0, [.string (bs id), .int .i64 rev, .int .i64 kd, .string (bs nd), .string (bs gr), .int .i64 th, .slice oa outer.length oc, .slice ha hvs.length hc, .string (bs sc), .int .i64 ln, .int .i64 ms, .int .i64 cx, .int .i64 cy, .int .i64 cz, .int .i64 ax, .int .i64 ay, .int .i64 az, .int .i64 tn]⟩] (Below W1.heap.size W1) [(1, 0)] [(12, .ret (.bool (((outer.length : Int) == 0) && ((hvs.length : Int) == 0))))] [(3, .bool ((th != 0) || !(((outer.length : Int) == 0) && ((hvs.length : Int) == 0))))] (by kernel_rfl) (Below.refl _ _)
    (obsC (fun u hu => rangeKeep (range_new HO.out) hu) obsN) ⟨rfl, trivial⟩ ?_
  conv => whnf
  refine And.intro (Nat.le_of_ble_eq_true rfl) ?_
  conv => whnf
  refine And.intro (under_of fun u hu => ret_in (rzero_any _ _ _ _ _ _ u) hu) ?_
  conv => whnf
  intro f1
  conv => whnf
  refine And.intro (rfl) ?_
  conv => whnf
  intro w2 h2
  have HB2 := Lib.hid (ext_trans HB.out h2)
  have HO2 := Lib.hid (HO.out.keep h2)
  clear h2 HO HB
  obtain ⟨p1, hp1⟩ : ∃ p, ((th != 0) || !(((outer.length : Int) == 0) && ((hvs.length : Int) == 0))) = p := ⟨_, rfl⟩
  rw [hp1]
  clear hp1
  go_upto_region 2 with fail
  refine wp_region_et gmT gmT_ok [⟨w.heap.size, 0, [.string (bs id), .int .i64 rev, .int .i64 kd, .string (bs nd), .string (bs gr), .int .i64 th, .slice oa outer.length oc, .slice ha hvs.length hc, .string (bs sc), .int .i64 ln, .int .i64 ms, .int .i64 cx, .int .i64 cy, .int .i64 cz, .int .i64 ax, .int .i64 ay, .int .i64 az, .int .i64 tn]⟩] (Below w2.heap.size w2) [(1, 0)] [] [(4, .bool ((!((bs sc).toList == (ByteArray.mk #[]).toList)) || (ln != 0)))] (by kernel_rfl) (Below.refl _ _)
    (obsC (fun u hu => rangeKeep (range_new HO2.out) hu) obsN) ⟨rfl, trivial⟩ ?_
  conv => whnf
  intro f2
  conv => whnf
  refine And.intro (rfl) ?_
  conv => whnf
  intro w3 h3
  have HB3 := Lib.hid (ext_trans HB2.out h3)
  have HO3 := Lib.hid (HO2.out.keep h3)
  clear h3 HO2 HB2
  obtain ⟨p2, hp2⟩ : ∃ p, ((!((bs sc).toList == (ByteArray.mk #[]).toList)) || (ln != 0)) = p := ⟨_, rfl⟩
  rw [hp2]
  clear hp2
  go_upto_region 3 with fail
  refine wp_region_et gmT gmT_ok [⟨w.heap.size, 0, [.string (bs id), .int .i64 rev, .int .i64 kd, .string (bs nd), .string (bs gr), .int .i64 th, .slice oa outer.length oc, .slice ha hvs.length hc, .string (bs sc), .int .i64 ln, .int .i64 ms, .int .i64 cx, .int .i64 cy, .int .i64 cz, .int .i64 ax, .int .i64 ay, .int .i64 az, .int .i64 tn]⟩] (Below w3.heap.size w3) [(1, 0)] [(29, .ret (.agg #[.int .i64 0, .int .i64 0, .int .i64 0])), (30, .ret (.bool (!(decide (cx = 0 ∧ cy = 0 ∧ cz = 0)))))] [(5, .bool ((ms != 0) || (!(decide (cx = 0 ∧ cy = 0 ∧ cz = 0)))))] (by kernel_rfl) (Below.refl _ _)
    (obsC (fun u hu => rangeKeep (range_new HO3.out) hu) obsN) ⟨rfl, trivial⟩ ?_
  conv => whnf
  refine And.intro (Nat.le_of_ble_eq_true rfl) ?_
  conv => whnf
  refine And.intro (under_of fun w => zero_vec w) ?_
  conv => whnf
  refine And.intro (under_of fun x y w => neq_vec cx cy cz _ x y w rfl) ?_
  conv => whnf
  intro f3
  conv => whnf
  refine And.intro (rfl) ?_
  conv => whnf
  intro w4 h4
  have HB4 := Lib.hid (ext_trans HB3.out h4)
  have HO4 := Lib.hid (HO3.out.keep h4)
  clear h4 HO3 HB3
  obtain ⟨p3, hp3⟩ : ∃ p, ((ms != 0) || (!(decide (cx = 0 ∧ cy = 0 ∧ cz = 0)))) = p := ⟨_, rfl⟩
  rw [hp3]
  clear hp3
  have c2 := HO4.out.cell 2
  have c4 := HO4.out.cell 4
  dsimp at c2 c4
  by_cases k1 : kd = 1
  · subst k1
    cases p2 <;> cases p3 <;> (go_wp2_with fail; go_ret; exact ⟨_, rfl, HB4.out⟩)
  by_cases k4 : kd = 4
  · subst k4
    cases p1 <;> cases p2 <;> (go_wp2_with fail; go_ret; exact ⟨_, rfl, HB4.out⟩)
  cases p1 <;> cases p3 <;> (go_wp2_with fail; go_ret; exact ⟨_, rfl, HB4.out⟩)
set_option maxRecDepth 100000 in
set_option maxHeartbeats 400000 in
theorem rknown_any (x : Prt) (g s : Sv) (gs : List Grd) (cs : List Sct) (w : World) (h : PrtOK w x) (hM : MatOK w g s gs cs) (hgl : ∀ x ∈ gs, x.gauges.length ≤ 1000000) (hcl : cs.length ≤ 100000) : Calls Tryz.prog 91 #[.agg (prA x), .agg (matA g s)] w (RetB w) := by
  have HM := Lib.hid hM
  have HGL := Lib.hid hgl
  clear hM hgl
  have HP := Lib.hid h.shp
  obtain ⟨id, rev, kd, nd, gr, th, ov, hv, sc, ln, ms, cx, cy, cz, ax, ay, az, tn, outer, holes, hvs⟩ := x
  have HP : Hid (ShpOK w ov hv outer holes hvs) := HP
  obtain ⟨oa, oc, rfl, o1, o2, _⟩ := HP.out.o
  obtain ⟨ha, hc, rfl, s1, s2, _⟩ := HP.out.hs
  clear h o1 s1
  unfold maxLen at o2 s2
  show Calls Tryz.prog 91 #[.agg #[.string (bs id), .int .i64 rev, .int .i64 kd, .string (bs nd), .string (bs gr), .int .i64 th, .slice oa outer.length oc, .slice ha hvs.length hc, .string (bs sc), .int .i64 ln, .int .i64 ms, .int .i64 cx, .int .i64 cy, .int .i64 cz, .int .i64 ax, .int .i64 ay, .int .i64 az, .int .i64 tn], .agg #[.slice g.a g.n g.c, .slice s.a s.n s.c]] w _
  obtain ⟨W1, HO, HQ, HB, HW⟩ := two_box w #[.string (bs id), .int .i64 rev, .int .i64 kd, .string (bs nd), .string (bs gr), .int .i64 th, .slice oa outer.length oc, .slice ha hvs.length hc, .string (bs sc), .int .i64 ln, .int .i64 ms, .int .i64 cx, .int .i64 cy, .int .i64 cz, .int .i64 ax, .int .i64 ay, .int .i64 az, .int .i64 tn] #[.slice g.a g.n g.c, .slice s.a s.n s.c] 123 32
  go_enter Tryz.func91, Tryz.ntmps91
  go_upto_region 1 with fail
  rw [HW.out]
  clear HW
  have c2 := HO.out.cell 2
  have c4 := HO.out.cell 4
  have d0 := HQ.out.cell 0
  have d1 := HQ.out.cell 1
  dsimp at c2 c4 d0 d1
  by_cases k4 : kd = 4
  · subst k4
    go_wp2_with fail
    go_ret
    exact ⟨_, rfl, HB.out⟩
  go_wp2_with fail
  refine (rGrade_any g s gs cs gr W1 (HM.out.keep HB.out) HGL.out).mono ?_
  rintro e w2 ⟨⟨xn, xd, xy, xv, xg⟩, b, rfl, hx, hb2⟩
  have hx : SI w2 xv xg := hx
  obtain ⟨va, vc, rfl, v1, v2, v3⟩ := hx
  have HB2 := Lib.hid (ext_trans HB.out hb2)
  have HO2 := Lib.hid (HO.out.keep hb2)
  have HQ2 := Lib.hid (HQ.out.keep hb2)
  clear v1 v2 v3 hb2 c2 c4 d0 d1 HO HQ
  obtain ⟨W3, hW3⟩ : ∃ W3, w2.alloc (.cells #[.string (bs xn), .int .i64 xd, .int .i64 xy, .slice va xg.length vc] 154) = W3 := ⟨_, rfl⟩
  have HO3 : Hid (ObjAt W3 w2.heap.size #[.string (bs xn), .int .i64 xd, .int .i64 xy, .slice va xg.length vc] 154) := by show ObjAt ..; rw [← hW3]; exact ObjAt.new _ _ _
  have HB3 : Hid (Below w2.heap.size w2 W3) := by show Below ..; rw [← hW3]; exact (Below.refl _ _).alloc (Nat.le_refl _) _
  have HW3 := Lib.hid hW3
  clear hW3
  simp only [grA]
  go_upto_region 4 with fail
  rw [HW3.out]
  clear HW3
  have HOP := Lib.hid (HO2.out.keep HB3.out)
  have HQP := Lib.hid (HQ2.out.keep HB3.out)
  have HBW := Lib.hid (ext_trans HB2.out HB3.out)
  refine wp_region_et gmT gmT_ok [⟨w2.heap.size, 0, [.string (bs xn), .int .i64 xd, .int .i64 xy, .slice va xg.length vc]⟩] (Below W3.heap.size W3) [(5, 0)] [] [(29, .bool ((!b || decide (xd < 1000)) || decide (20000 < xd)))] (by kernel_rfl) (Below.refl _ _)
    (obsC (fun u hu => rangeKeep (range_new HO3.out) hu) obsN) ⟨rfl, trivial⟩ ?_
  conv => whnf
  intro f1
  conv => whnf
  refine And.intro (rfl) ?_
  conv => whnf
  intro w4 h4
  have HB4 := Lib.hid (ext_trans HBW.out h4)
  have HO4 := Lib.hid (HOP.out.keep h4)
  have HQ4 := Lib.hid (HQP.out.keep h4)
  clear h4 HOP HQP HO3 HB3 HO2 HQ2 HB2
  obtain ⟨z, hz⟩ : ∃ p, ((!b || decide (xd < 1000)) || decide (20000 < xd)) = p := ⟨_, rfl⟩
  rw [hz]
  clear hz
  cases z
  rotate_left
  · go_wp2_with fail
    go_ret
    exact ⟨_, rfl, HB4.out⟩
  have c2 := HO4.out.cell 2
  have c4 := HO4.out.cell 4
  have c5 := HO4.out.cell 5
  have c8 := HO4.out.cell 8
  have d0 := HQ4.out.cell 0
  have d1 := HQ4.out.cell 1
  dsimp at c2 c4 c5 c8 d0 d1
  by_cases k1 : kd = 1
  · subst k1
    by_cases t1 : 1 ≤ th
    · by_cases t2 : th ≤ 120
      · go_wp2_with fail
        refine (rRolled_any g s gs cs gr th w4 (HM.out.keep HB4.out) HGL.out).mono ?_
        rintro e w5 ⟨u, rfl, hb5⟩
        have HB5 := Lib.hid (ext_trans HB4.out hb5)
        clear hb5 c2 c4 c5 c8 d0 d1
        go_wp2_with fail
        go_ret
        exact ⟨_, rfl, HB5.out⟩
      · go_wp2_with fail
        go_ret
        exact ⟨_, rfl, HB4.out⟩
    · go_wp2_with fail
      go_ret
      exact ⟨_, rfl, HB4.out⟩
  go_wp2_with fail
  refine (rSection_any g s cs sc w4 ((HM.out.keep HB4.out).s) hcl).mono ?_
  rintro e w5 ⟨rfl, hb5⟩
  have HB5 := Lib.hid (ext_trans HB4.out hb5)
  clear hb5 c2 c4 c5 c8 d0 d1
  unfold sectionV
  obtain ⟨⟨yn, ya, yh, yst⟩, hy⟩ : ∃ y, (scFind cs sc).getD default = y := ⟨_, rfl⟩
  obtain ⟨b2, hb2⟩ : ∃ b, (scFind cs sc).isSome = b := ⟨_, rfl⟩
  rw [hy, hb2]
  clear hy hb2
  obtain ⟨W6, hW6⟩ : ∃ W6, w5.alloc (.cells #[.string (bs yn), .int .i64 ya, .int .i64 yh, .int .i64 yst] 96) = W6 := ⟨_, rfl⟩
  have HO6 : Hid (ObjAt W6 w5.heap.size #[.string (bs yn), .int .i64 ya, .int .i64 yh, .int .i64 yst] 96) := by show ObjAt ..; rw [← hW6]; exact ObjAt.new _ _ _
  have HB6 : Hid (Below w.heap.size w W6) := by show Below ..; rw [← hW6]; exact HB5.out.alloc HB5.out.size _
  have HW6 := Lib.hid hW6
  clear hW6
  simp only [scA]
  go_upto_region 9 with fail
  rw [HW6.out]
  clear HW6
  refine wp_region_et gmT gmT_ok [⟨w5.heap.size, 0, [.string (bs yn), .int .i64 ya, .int .i64 yh, .int .i64 yst]⟩] (Below W6.heap.size W6) [(7, 0)] [] [(4, .bool ((((b2 && decide (1 ≤ ya)) && decide (ya ≤ 1000000)) && decide (1 ≤ yh)) && decide (yh ≤ 2000)))] (by kernel_rfl) (Below.refl _ _)
    (obsC (fun u hu => rangeKeep (range_new HO6.out) hu) obsN) ⟨rfl, trivial⟩ ?_
  conv => whnf
  intro f4
  conv => whnf
  refine And.intro (rfl) ?_
  conv => whnf
  intro w7 h7
  have HB7 := Lib.hid (ext_trans HB6.out h7)
  clear h7
  go_wp2_with fail
  go_ret
  exact ⟨_, rfl, HB7.out⟩
end Go.Proofs.YtfpnjbomlmhlpaaGreat
