/- Contracts: plain, stations, ordered of certify; addresses of cuts. -/
import Derived.Test.YtehbnckdllbmgaaGreatDoorCerD
set_option linter.unusedSimpArgs false
set_option linter.unusedVariables false
namespace Go.Proofs.YtehbnckdllbmgaaGreatDoor
open Go.RowKit

section
variable {o : Oper} {a : Act} {w : World} {K : Act → World → Prop} {Q : Exit → Act → World → Prop}
theorem ix_cuts (x y : Operand) (b off n c : Nat) (i : Nat) (ho : o.op = .indexAddr 26 x y) (hx : a.eval x = .slice (some ⟨b, off, none⟩) n c) (hy : a.eval y = .int .i64 i) (hi : i < n) (hc : n ≤ c)
    (h : K (a.put o.dst (.pointer (some ⟨b, off + i * 2, none⟩))) w) : o.wp Tryz.prog a w K Q := by
  have i1 : (i : Int) < n := by omega
  have i2 : (i : Int) < c := by omega
  unfold Oper.wp execOp
  simp only [ho]
  generalize a.eval = ev at *
  go_simp
  exact h
theorem fa_cut (x : Operand) (k : Nat) (hk : k < 2) (ho : o.op = .fieldAddr 54 x k) (b off : Nat) (hx : a.eval x = .pointer (some ⟨b, off, none⟩)) (h : K (a.put o.dst (.pointer (some ⟨b, off + k, none⟩))) w) : o.wp Tryz.prog a w K Q := by
  have hc : k = 0 ∨ k = 1 := by omega
  unfold Oper.wp execOp
  rcases hc with rfl | rfl
  all_goals
    simp only [ho]
    generalize a.eval = ev at *
    go_simp
    exact h
end

theorem cell_new {w : World} {vs : Array Value} {t : TypeId} {b k : Nat} {v : Value} (hb : b = w.heap.size) (h : vs[k]? = some v) : (w.alloc (.cells vs t)).cell? ⟨b, k, none⟩ = some v := by subst hb; simp [h]
theorem part_range (n : Nat) : part (fun i => (i : Int)) n n = rangeI n := part_full _ n
set_option maxHeartbeats 400000 in
theorem plain_any (n : Nat) (hn : n ≤ 100000) (w : World) : Calls Tryz.prog 44 #[.int .i64 n] w (RetI w (rangeI n)) := by
  obtain ⟨iI, hI, hz0, hz1, hz2⟩ := info_parts Tryz_infoInt
  have HI := Lib.hid hI; have HZ0 := Lib.hid hz0; have HZ1 := Lib.hid hz1; have HZ2 := Lib.hid hz2
  clear hI hz0 hz1 hz2
  go_enter Tryz.func44, Tryz.ntmps44
  go_wp2_with (at_make; refine wpList_make_full _ rfl _ _ 24 rfl w.heap.size 3 iI (.int .i64 0) 1 Tryz.underlying24 HI.out HZ0.out HZ1.out _ _ _ _ n rfl rfl rfl rfl ?c1 ?c2 (Nat.le_refl _) ?_)
  case c1 => rw [HZ2.out]; omega
  case c2 => unfold maxLen; omega
  intro w1 hown1 hgrow1
  rw [← part_zero (fun i => (i : Int))] at hown1
  have HO1 := Lib.hid hown1; clear hown1
  have HB1 := Lib.hid (grownBy_below hgrow1); clear hgrow1
  go_wp2_with fail
  go_loopw [9] (fun i wr => ∃ k : Nat, k ≤ n ∧ i = .int .i64 k ∧ Hid (Below w.heap.size w wr) ∧ Hid (wr.ownsRow w.heap.size 3 1 (.slice (some ⟨w.heap.size, 0, none⟩) n n) n ((part (fun i => (i : Int)) k n).map (Value.int .i64)))) (fun i _ => n - (intOf i).toNat)
  case atStart => exact ⟨0, Nat.zero_le _, rfl, HB1, HO1⟩
  case round =>
    obtain ⟨k, hk, rfl, hb, ho⟩ := hrel
    by_cases hlt : k < n
    · have hcell := part_cell ho.out hlt
      have hfz := World.ownsRow.frozenAt ho.out k
      have HS := Lib.hid (part_store (x := (k : Int)) ho.out rfl)
      go_wp2_with fail
      go_roundw
      case rel => exact ⟨k + 1, by omega, by go_num, hb.out.setCell (p := ⟨w.heap.size, k, none⟩) (Nat.le_refl _) _, HS⟩
      case measure => simp [intOf]; omega
    · obtain rfl : k = n := by omega
      have HR := Lib.hid (SI_of_owns (xs := rangeI k) (by rw [← part_range]; exact ho.out))
      go_wp2_with fail
      go_ret
      exact ⟨_, rfl, HR.out, hb.out⟩

/-- how many stations the program sees -/
def stP (p : List (List Int)) : Nat := if p.length = 0 then 0 else (ri p 0).length
theorem stations_any (v : Value) (p : List (List Int)) (w : World) (h : SS w v p) : Calls Tryz.prog 46 #[v] w fun e w' => e = .returned (.int .i64 (stP p)) ∧ ∃ m, w' = w.drewN m := by
  have H := Lib.hid h
  obtain ⟨vs, ⟨a, cap, rfl, h1, h2, h3⟩, h4⟩ := h
  have hm : p.length ≤ 9223372036854775807 := by unfold maxLen at h2; omega
  by_cases h0 : p.length = 0
  · have HV := Lib.hid (show ((stP p : Nat) : Int) = 0 by unfold stP; rw [if_pos h0]; rfl)
    clear h3 h4
    go_enter Tryz.func46, Tryz.ntmps46
    go_wp2_with fail
    go_ret
    exact ⟨ret_int HV.out.symm, 0, rfl⟩
  · have HV := Lib.hid (show stP p = (ri p 0).length by unfold stP; rw [if_neg h0])
    obtain ⟨b, off, rfl, hc⟩ := h3 0 (by omega)
    obtain ⟨ra, rc, hr, r1, r2⟩ := (h4 0 (by omega)).sl
    rw [hr, Nat.add_zero] at hc
    have i1 : (0 : Int) < p.length := by omega
    have i2 : (0 : Int) < cap := by omega
    clear h3 h4 hr
    go_enter Tryz.func46, Tryz.ntmps46
    go_wp2_with fail
    go_ret
    exact ⟨ret_int (by rw [HV.out]), 0, rfl⟩

def od6d (i : Nat) : Nat := i + 33
def od6V (k : Int) (c : Bool) (lv : Value) (lb lo j8 : Nat) (va vb : Value) (p8 : Nat) (cm : Int) (bg : Bool) : Nat → Value
  | 0 => .int .i64 k
  | 1 => .bool c
  | 2 => .bool c
  | 3 => cond (c == true) lv undef
  | 4 => cond (c == true) (.int .i64 k) undef
  | 5 => cond (c == true) (.int .i64 j8) undef
  | 6 => cond (c == true) (.pointer (some ⟨lb, lo + j8 * 2, none⟩)) undef
  | 7 => cond (c == true) (.pointer (some ⟨lb, lo + j8 * 2 + 0, none⟩)) undef
  | 8 => cond (c == true) va undef
  | 9 => cond (c == true) (.pointer (some ⟨p8, 0 + 0, none⟩)) undef
  | 10 => cond (c == true) vb undef
  | 11 => cond (c == true) (.int .i64 cm) undef
  | 12 => cond (c == true) (.bool (decide (0 ≤ cm))) undef
  | 13 => cond (c == true) (.bool (decide (0 ≤ cm))) undef
  | 14 => cond ((c == true) && (decide (0 ≤ cm) == false)) (.pointer (some ⟨p8, 0 + 0, none⟩)) undef
  | 15 => cond ((c == true) && (decide (0 ≤ cm) == false)) vb undef
  | 16 => cond ((c == true) && (decide (0 ≤ cm) == false)) lv undef
  | 17 => cond ((c == true) && (decide (0 ≤ cm) == false)) (.int .i64 k) undef
  | 18 => cond ((c == true) && (decide (0 ≤ cm) == false)) (.int .i64 j8) undef
  | 19 => cond ((c == true) && (decide (0 ≤ cm) == false)) (.pointer (some ⟨lb, lo + j8 * 2, none⟩)) undef
  | 20 => cond ((c == true) && (decide (0 ≤ cm) == false)) (.pointer (some ⟨lb, lo + j8 * 2 + 0, none⟩)) undef
  | 21 => cond ((c == true) && (decide (0 ≤ cm) == false)) va undef
  | 22 => cond ((c == true) && (decide (0 ≤ cm) == false)) (.bool bg) undef
  | 23 => cond (c == true) (.bool (cond (decide (0 ≤ cm)) true bg)) undef
  | 24 => .bool (cond c (cond (decide (0 ≤ cm)) true bg) false)
  | _ => undef
theorem enter_cpI : ∀ args w, (callFunc 41 args).run Tryz.prog w = .ok (.enter 41 args) w := enters_of Tryz.func41 (by kernel_rfl) rfl
theorem enter_begins : ∀ args w, (callFunc 78 args).run Tryz.prog w = .ok (.enter 78 args) w := enters_of Tryz.func78 (by kernel_rfl) rfl

set_option maxRecDepth 100000 in
set_option maxHeartbeats 2000000 in
theorem ordered_any (n s : Nat) (v : Value) (L : List Cut) (w : World) (hn : n ≤ 100000) (hs : s ≤ 9223372036854775807) (h : SC w v L) :
    Calls Tryz.prog 45 #[.int .i64 n, .int .i64 s, v] w (Ret w (.int .i64 (ordE n (max (s : Int) 1) L L.length))) := by
  obtain ⟨a, cap, rfl, h1, h2, h3⟩ := h
  have H3 := Lib.hid h3; clear h3
  have hm : L.length ≤ 9223372036854775807 := by unfold maxLen at h2; omega
  go_enter Tryz.func45, Tryz.ntmps45
  go_wp2_with fail
  go_loopw [11] (fun i wr => ∃ k : Nat, k ≤ L.length ∧ i = .int .i64 k ∧ Hid (Below w.heap.size w wr) ∧ Hid (ordE n (max (s : Int) 1) L k = 0)) (fun i _ => L.length - (intOf i).toNat)
  case atStart => exact ⟨0, Nat.zero_le _, rfl, Below.refl _ _, rfl⟩
  case round =>
    obtain ⟨k, hk, rfl, hb, hz⟩ := hrel
    by_cases hlt : k < L.length
    · obtain ⟨b, off, u, rfl, hcu⟩ := H3.out k hlt
      have hcw := hcu.keep hb.out
      obtain ⟨c0, c1, si⟩ := hcw
      obtain ⟨ua, uc, rfl, u1, u2⟩ := si.sl
      have SIu := Lib.hid si; clear si hcu
      have hum : (ci L k).1.length ≤ 9223372036854775807 := by unfold maxLen at u2; omega
      obtain ⟨W8, hW8⟩ : ∃ W8, W8 = wr.alloc (.cells #[.slice ua (ci L k).1.length uc, .int .i64 (ci L k).2] 54) := ⟨_, rfl⟩
      have hb8 : Below wr.heap.size wr W8 := by rw [hW8]; exact (Below.refl _ _).alloc (Nat.le_refl _) _
      have HB8 := Lib.hid hb8
      have p0 : W8.cell? ⟨wr.heap.size, 0, none⟩ = some (.slice ua (ci L k).1.length uc) := by rw [hW8]; exact cell_new rfl rfl
      have p1 : W8.cell? ⟨wr.heap.size, 1, none⟩ = some (.int .i64 (ci L k).2) := by rw [hW8]; exact cell_new rfl rfl
      have P0 := Lib.hid p0; have P1 := Lib.hid p1
      have HC := Lib.hid (hb.out.trans (hb8.mono hb.out.size))
      clear hb8
      obtain ⟨x, hx⟩ : ∃ x, (ci L k).2 = x := ⟨_, rfl⟩
      have HX := Lib.hid hx
      rw [hx] at c1 p1 hW8
      clear hx
      go_wp2_with fail
      rw [← hW8]
      refine (cright_any _ n _ _ (by omega) (SIu.out.keep HB8.out)).mono ?_
      rintro e w1 ⟨rfl, m1, rfl⟩
      have HBAD : Hid (badCut n (max (s : Int) 1) (ci L k) = (!rightB n (ci L k).1 || decide (x < 0) || decide (max (s : Int) 1 ≤ x))) := by show _ = _; unfold badCut; rw [HX.out]
      cases hr : rightB n (ci L k).1
      · have HV := Lib.hid (ordE_bad hz.out (by rw [HBAD.out, hr]; rfl) hlt)
        clear hr hW8
        go_wp2_with fail
        go_ret
        exact ⟨ret_int HV.out.symm, below_drewN' HC.out _⟩
      have HR := Lib.hid hr; clear hr
      by_cases n1 : x < 0
      · have HV := Lib.hid (ordE_bad hz.out (by rw [HBAD.out, HR.out, decide_eq_true n1]; rfl) hlt)
        clear hW8
        go_wp2_with fail
        go_ret
        exact ⟨ret_int HV.out.symm, below_drewN' HC.out _⟩
      by_cases n2 : max (s : Int) 1 ≤ x
      · have HV := Lib.hid (ordE_bad hz.out (by rw [HBAD.out, HR.out, decide_eq_true n2]; simp) hlt)
        have hs1 : (if (s : Int) < 1 then (1 : Int) else s) = max (s : Int) 1 := gmax _ _
        clear hW8
        go_wp2_with fail
        · go_ret
          exact ⟨ret_int HV.out.symm, below_drewN' HC.out _⟩
      have HG := Lib.hid (show badCut n (max (s : Int) 1) (ci L k) = false by rw [HBAD.out, HR.out, decide_eq_false n1, decide_eq_false n2]; rfl)
      have hs1 : (if (s : Int) < 1 then (1 : Int) else s) = max (s : Int) 1 := gmax _ _
      obtain ⟨va, hva⟩ : ∃ va, 0 < k → W8.cell? ⟨b, off + (k - 1) * 2, none⟩ = some va ∧ SI W8 va (ci L (k - 1)).1 := by
        by_cases hk0 : 0 < k
        · obtain ⟨b', off', u', e1, hcu'⟩ := H3.out (k - 1) (by omega)
          simp only [Option.some.injEq, Addr.mk.injEq] at e1
          obtain ⟨rfl, rfl, _⟩ := e1
          have := hcu'.keep HC.out
          exact ⟨u', fun _ => ⟨this.c0, this.s⟩⟩
        · exact ⟨undef, fun h => absurd h hk0⟩
      have HVA := Lib.hid hva; clear hva hW8 HBAD
      go_wp2_with fail
      refine wp_name fun a0 ha0 => ?_
      have z2 : a0.eval (.tmp 2) = .slice (some ⟨b, off, none⟩) L.length cap := by rw [ha0]; rfl
      have z7 : a0.eval (.tmp 7) = .int .i64 k := by rw [ha0]; rfl
      have z8 : a0.eval (.tmp 8) = .pointer (some ⟨wr.heap.size, 0, none⟩) := by rw [ha0]; rfl
      refine wp_region_gd od6d (od6V k (decide (0 < (k : Int))) (.slice (some ⟨b, off, none⟩) L.length cap) b off (k - 1) va (.slice ua (ci L k).1.length uc) wr.heap.size (cmpL (ci L (k - 1)).1 (ci L k).1) (begB (ci L (k - 1)).1 (ci L k).1)) (fun w' => ∃ m, w' = W8.drewN m) mixed (by kernel_rfl) (by rw [show a0.tmps.size = 59 by rw [ha0]; rfl]; kernel_rfl) (by kernel_rfl) (dn2 W8 m1 1) ?_ ?_
      · rintro i op a w7 hop hdep hsm ⟨m7, rfl⟩ K hK
        have hi : i < 25 := (Array.getElem?_eq_some_iff.1 hop).1
        have q2 := (hsm.eval (m := 2) (by decide)).trans z2
        have q7 := (hsm.eval (m := 7) (by decide)).trans z7
        have q8 := (hsm.eval (m := 8) (by decide)).trans z8
        have dv : ∀ e' ∈ op.after, Region.binds .any e' = true → a.eval (.tmp (od6d e'.on)) = (od6V k (decide (0 < (k : Int))) (.slice (some ⟨b, off, none⟩) L.length cap) b off (k - 1) va (.slice ua (ci L k).1.length uc) wr.heap.size (cmpL (ci L (k - 1)).1 (ci L k).1) (begB (ci L (k - 1)).1 (ci L k).1)) e'.on := fun e he hbi => hdep e he hbi
        have hn : ∀ v, v = (od6V k (decide (0 < (k : Int))) (.slice (some ⟨b, off, none⟩) L.length cap) b off (k - 1) va (.slice ua (ci L k).1.length uc) wr.heap.size (cmpL (ci L (k - 1)).1 (ci L k).1) (begB (ci L (k - 1)).1 (ci L k).1)) i → K (a.put op.dst v) (W8.drewN m7) := fun v hv => hK _ _ ⟨m7, rfl⟩ hv
        have hp : (decide (0 < (k : Int)) == true) = true → 0 < k := fun h => by simp at h; omega
        have hcase : i = 0 ∨ i = 1 ∨ i = 2 ∨ i = 3 ∨ i = 4 ∨ i = 5 ∨ i = 6 ∨ i = 7 ∨ i = 8 ∨ i = 9 ∨ i = 10 ∨ i = 11 ∨ i = 12 ∨ i = 13 ∨ i = 14 ∨ i = 15 ∨ i = 16 ∨ i = 17 ∨ i = 18 ∨ i = 19 ∨ i = 20 ∨ i = 21 ∨ i = 22 ∨ i = 23 ∨ i = 24 := by omega
        rcases hcase with h | h | h | h | h | h | h | h | h | h | h | h | h | h | h | h | h | h | h | h | h | h | h | h | h <;> subst h <;> have ho' := Option.some.inj hop <;> subst ho'
        · exact gd_on rfl (vl_move (.tmp 7) rfl _ q7 (hn _ rfl))
        · exact gd_on rfl (gt_ints (.tmp 33) (.const (.int .i64 0)) rfl _ _ (dv ⟨0, .data⟩ (by simp) rfl) rfl (hn _ rfl))
        · exact gd_on rfl (vl_move (.tmp 34) rfl _ (dv ⟨1, .data⟩ (by simp) rfl) (hn _ rfl))
        · refine gd_if (gOn_at0 rfl rfl rfl) rfl fun hc => ?_; exact vl_move (.tmp 2) rfl _ q2 (hn _ (cd hc).symm)
        · refine gd_if (gOn_at0 rfl rfl rfl) rfl fun hc => ?_; exact vl_move (.tmp 7) rfl _ q7 (hn _ (cd hc).symm)
        · refine gd_if (gOn_at0 rfl rfl rfl) rfl fun hc => ?_; exact wp_sub1 (.tmp 37) (.const (.int .i64 1)) rfl _ _ ((dv ⟨4, .data⟩ (by simp) rfl).trans (cd hc)) rfl (by omega) (hn _ ((cd hc).trans (by have := hp hc; congr 1; omega)).symm)
        · refine gd_if (gOn_at0 rfl rfl rfl) rfl fun hc => ?_; exact ix_cuts (.tmp 36) (.tmp 38) b off L.length cap (k - 1) rfl ((dv ⟨3, .data⟩ (by simp) rfl).trans (cd hc)) ((dv ⟨5, .data⟩ (by simp) rfl).trans (cd hc)) (by omega) h1 (hn _ (cd hc).symm)
        · refine gd_if (gOn_at0 rfl rfl rfl) rfl fun hc => ?_; exact fa_cut (.tmp 39) 0 (by omega) rfl b (off + (k - 1) * 2) ((dv ⟨6, .data⟩ (by simp) rfl).trans (cd hc)) (hn _ (cd hc).symm)
        · refine gd_if (gOn_at0 rfl rfl rfl) rfl fun hc => ?_; exact vl_load 24 agg_ints (.tmp 40) rfl _ _ ((dv ⟨7, .data⟩ (by simp) rfl).trans (cd hc)) (HVA.out (hp hc)).1 (hn _ (cd hc).symm)
        · refine gd_if (gOn_at0 rfl rfl rfl) rfl fun hc => ?_; exact fa_cut (.tmp 8) 0 (by omega) rfl wr.heap.size 0 q8 (hn _ (cd hc).symm)
        · refine gd_if (gOn_at0 rfl rfl rfl) rfl fun hc => ?_; exact vl_load 24 agg_ints (.tmp 42) rfl _ _ ((dv ⟨9, .data⟩ (by simp) rfl).trans (cd hc)) P0.out (hn _ (cd hc).symm)
        · refine gd_if (gOn_at0 rfl rfl rfl) rfl fun hc => ?_; exact vl_call2 41 _ _ (.tmp 41) (.tmp 43) rfl enter_cpI _ _ ((dv ⟨8, .data⟩ (by simp) rfl).trans (cd hc)) ((dv ⟨10, .data⟩ (by simp) rfl).trans (cd hc)) ((compare_ints _ _ _ _ _ (((HVA.out (hp hc)).2).drewN m7) ((SIu.out.keep HB8.out).drewN m7)).mono fun e w8 ⟨he, m8, hw8⟩ => ⟨_, he, hK _ _ (by rw [hw8]; exact dn2 W8 m7 m8) (cd hc).symm⟩)
        · refine gd_if (gOn_at0 rfl rfl rfl) rfl fun hc => ?_; exact ge_ints (.tmp 44) (.const (.int .i64 0)) rfl _ _ ((dv ⟨11, .data⟩ (by simp) rfl).trans (cd hc)) rfl (hn _ (cd hc).symm)
        · refine gd_if (gOn_at0 rfl rfl rfl) rfl fun hc => ?_; exact vl_move (.tmp 45) rfl _ ((dv ⟨12, .data⟩ (by simp) rfl).trans (cd hc)) (hn _ (cd hc).symm)
        · refine gd_if (gOn_at rfl rfl rfl) rfl fun hc => ?_; exact fa_cut (.tmp 8) 0 (by omega) rfl wr.heap.size 0 q8 (hn _ (cd hc).symm)
        · refine gd_if (gOn_at rfl rfl rfl) rfl fun hc => ?_; exact vl_load 24 agg_ints (.tmp 47) rfl _ _ ((dv ⟨14, .data⟩ (by simp) rfl).trans (cd hc)) P0.out (hn _ (cd hc).symm)
        · refine gd_if (gOn_at rfl rfl rfl) rfl fun hc => ?_; exact vl_move (.tmp 2) rfl _ q2 (hn _ (cd hc).symm)
        · refine gd_if (gOn_at rfl rfl rfl) rfl fun hc => ?_; exact vl_move (.tmp 7) rfl _ q7 (hn _ (cd hc).symm)
        · refine gd_if (gOn_at rfl rfl rfl) rfl fun hc => ?_; exact wp_sub1 (.tmp 50) (.const (.int .i64 1)) rfl _ _ ((dv ⟨17, .data⟩ (by simp) rfl).trans (cd hc)) rfl (by omega) (hn _ ((cd hc).trans (by have := hp (and_l hc); congr 1; omega)).symm)
        · refine gd_if (gOn_at rfl rfl rfl) rfl fun hc => ?_; exact ix_cuts (.tmp 49) (.tmp 51) b off L.length cap (k - 1) rfl ((dv ⟨16, .data⟩ (by simp) rfl).trans (cd hc)) ((dv ⟨18, .data⟩ (by simp) rfl).trans (cd hc)) (by omega) h1 (hn _ (cd hc).symm)
        · refine gd_if (gOn_at rfl rfl rfl) rfl fun hc => ?_; exact fa_cut (.tmp 52) 0 (by omega) rfl b (off + (k - 1) * 2) ((dv ⟨19, .data⟩ (by simp) rfl).trans (cd hc)) (hn _ (cd hc).symm)
        · refine gd_if (gOn_at rfl rfl rfl) rfl fun hc => ?_; exact vl_load 24 agg_ints (.tmp 53) rfl _ _ ((dv ⟨20, .data⟩ (by simp) rfl).trans (cd hc)) (HVA.out (hp (and_l hc))).1 (hn _ (cd hc).symm)
        · refine gd_if (gOn_at rfl rfl rfl) rfl fun hc => ?_; exact vl_call2 78 _ _ (.tmp 48) (.tmp 54) rfl enter_begins _ _ ((dv ⟨15, .data⟩ (by simp) rfl).trans (cd hc)) ((dv ⟨21, .data⟩ (by simp) rfl).trans (cd hc)) ((begins_any _ _ _ _ _ ((SIu.out.keep HB8.out).drewN m7) (((HVA.out (hp (and_l hc))).2).drewN m7)).mono fun e w8 ⟨he, m8, hw8⟩ => ⟨_, he, hK _ _ (by rw [hw8]; exact dn2 W8 m7 m8) (cd hc).symm⟩)
        · refine gd_if (gOn_at0 rfl rfl rfl) rfl fun hc => ?_; exact vl_pick (.tmp 46) (.const (.bool true)) (.tmp 55) rfl _ _ _ ((dv ⟨13, .data⟩ (by simp) rfl).trans (cd hc)) rfl (dv ⟨22, .data⟩ (by simp) rfl) (hn _ (pk1 _ _ _ hc))
        · exact gd_on rfl (vl_pick (.tmp 35) (.tmp 56) (.const (.bool false)) rfl _ _ _ (dv ⟨2, .data⟩ (by simp) rfl) (dv ⟨23, .data⟩ (by simp) rfl) rfl (hn _ (pk4 _ _)))
      rintro a5 w5 hs5 ⟨m5, rfl⟩ hv5
      have hs57 : a5.eval (.tmp 57) = .bool (cond (decide (0 < (k : Int))) (cond (decide (0 ≤ cmpL (ci L (k - 1)).1 (ci L k).1)) true (begB (ci L (k - 1)).1 (ci L k).1)) false) := hv5 24 (by decide)
      have hsm' : Sm [33, 34, 35, 36, 37, 38, 39, 40, 41, 42, 43, 44, 45, 46, 47, 48, 49, 50, 51, 52, 53, 54, 55, 56, 57] a0 a5 := hs5
      have HA := hsm'.lit
      simp only [List.foldl] at HA
      rw [hs57] at HA
      generalize a5.eval (.tmp 33) = t33 at HA
      generalize a5.eval (.tmp 34) = t34 at HA
      generalize a5.eval (.tmp 35) = t35 at HA
      generalize a5.eval (.tmp 36) = t36 at HA
      generalize a5.eval (.tmp 37) = t37 at HA
      generalize a5.eval (.tmp 38) = t38 at HA
      generalize a5.eval (.tmp 39) = t39 at HA
      generalize a5.eval (.tmp 40) = t40 at HA
      generalize a5.eval (.tmp 41) = t41 at HA
      generalize a5.eval (.tmp 42) = t42 at HA
      generalize a5.eval (.tmp 43) = t43 at HA
      generalize a5.eval (.tmp 44) = t44 at HA
      generalize a5.eval (.tmp 45) = t45 at HA
      generalize a5.eval (.tmp 46) = t46 at HA
      generalize a5.eval (.tmp 47) = t47 at HA
      generalize a5.eval (.tmp 48) = t48 at HA
      generalize a5.eval (.tmp 49) = t49 at HA
      generalize a5.eval (.tmp 50) = t50 at HA
      generalize a5.eval (.tmp 51) = t51 at HA
      generalize a5.eval (.tmp 52) = t52 at HA
      generalize a5.eval (.tmp 53) = t53 at HA
      generalize a5.eval (.tmp 54) = t54 at HA
      generalize a5.eval (.tmp 55) = t55 at HA
      generalize a5.eval (.tmp 56) = t56 at HA
      rw [HA, ha0]
      simp only [Act.put, List.setIfInBounds_toArray, List.set_cons_zero, List.set_cons_succ]
      clear HA
      clear hv5 hs5 hsm' hs57 ha0 z2 z7 z8
      have HD8 := Lib.hid (below_drewN' HC.out m5)
      cases h57 : cond (decide (0 < (k : Int))) (cond (decide (0 ≤ cmpL (ci L (k - 1)).1 (ci L k).1)) true (begB (ci L (k - 1)).1 (ci L k).1)) false
      · have HN := Lib.hid (show ordE n (max (s : Int) 1) L (k + 1) = 0 by
          refine ordE_next hz.out HG.out ?_
          by_cases hk0 : k = 0
          · exact .inl hk0
          · right
            rw [decide_eq_true (by omega)] at h57
            unfold behV
            cases hge : decide (0 ≤ cmpL (ci L (k - 1)).1 (ci L k).1)
            · rw [hge] at h57
              have h58 : begB (ci L (k - 1)).1 (ci L k).1 = false := h57
              rw [h58, decide_eq_true (by simp at hge; omega)]; rfl
            · rw [hge] at h57; cases h57)
        clear h57
        go_wp2_with fail
        go_roundw
        case rel => exact ⟨k + 1, by omega, by go_num, HD8, HN⟩
        case measure => simp [intOf]; omega
      · have HV := Lib.hid (show ordE n (max (s : Int) 1) L L.length = 11 by
          have hk0 : 0 < k := by
            cases hd : decide (0 < (k : Int))
            · rw [hd] at h57; cases h57
            · simp at hd; omega
          refine ordE_beh hz.out HG.out hk0 ?_ hlt
          rw [decide_eq_true (by omega)] at h57
          unfold behV
          cases hge : decide (0 ≤ cmpL (ci L (k - 1)).1 (ci L k).1)
          · rw [hge] at h57
            have h58 : begB (ci L (k - 1)).1 (ci L k).1 = true := h57
            rw [h58]; simp
          · rw [decide_eq_false (by simp at hge; omega)]; rfl)
        clear h57
        go_wp2_with fail
        go_ret
        exact ⟨ret_int HV.out.symm, HD8.out⟩
    · obtain rfl : k = L.length := by omega
      go_wp2_with fail
      go_ret
      exact ⟨ret_int hz.out.symm, hb.out⟩
theorem right_range (n : Nat) : rightB n (rangeI n) = true := by
  rw [rightB_iff]
  exact ⟨rangeI_nodup n, fun x hx => by rw [mem_rangeI] at hx; exact hx⟩
theorem finish_plain (p : List (List Int)) : finishE p (rangeI p.length) = checkE p := by
  by_cases h : checkE p = 0
  · rw [finishE_ok h (rangeI_length _) (right_range _), h]
  · exact finishE_bad h
theorem stP_max {p : List (List Int)} (hg : Good p) : max (stP p : Int) 1 = stV p := by
  unfold stP stV
  by_cases h : p.length = 0
  · rw [if_pos h, if_pos h]; rfl
  · rw [if_neg h, if_neg h]
    have := (hg.st 0 (by omega)).1
    omega
theorem stP_le {p : List (List Int)} {w : World} {v : Value} (h : SS w v p) : stP p ≤ maxLen := by
  unfold stP
  split
  · exact Nat.zero_le _
  · obtain ⟨vs, _, h4⟩ := h
    exact (h4 0 (by omega)).len
theorem Sl_one' {w : World} {u : Value} {e : TypeId} {b : Nat} (hb : b = w.heap.size) : Sl (w.alloc (.cells #[u] e)) (.slice (some ⟨b, 0, none⟩) 1 1) 1 fun _ => u := by subst hb; exact Sl_one _ _ _
theorem OwnR.shape {W0 w : World} {B : Nat} {t : Value} {rs : List (List Int)} (h : OwnR W0 w B t rs) : t = .slice none 0 0 ∨ ∃ a n c, t = .slice (some a) n c := by
  obtain ⟨vs, h1, _⟩ := h
  rcases h1.2 with ⟨e, _⟩ | ⟨g, cap, cur, e, _⟩
  · exact .inl e
  · exact .inr ⟨_, _, _, e⟩
theorem any_ci_true {L : List Cut} {f : Cut → Bool} {k : Nat} (hk : k < L.length) (h : f (ci L k) = true) : L.any f = true := List.any_eq_true.2 ⟨_, ci_mem hk, h⟩
theorem any_ci_false {L : List Cut} {f : Cut → Bool} (h : ∀ j, j < L.length → f (ci L j) = false) : L.any f = false := by
  rw [List.any_eq_false]; intro x hx; obtain ⟨j, hj, rfl⟩ := mem_ci hx; simp [h j hj]
theorem map_take_ci {L : List Cut} {k : Nat} (h : k < L.length) : (L.map (·.1)).take (k + 1) = (L.map (·.1)).take k ++ [(ci L k).1] := by
  rw [take_succ_ri (by simpa using h), ci_map]
/-- what the two calls say of a right cut -/
theorem cut_bound {p : List (List Int)} (hc : checkE p = 0) {c : Cut} (hb : badCut p.length (stV p) c = false) : (c.1.length = p.length → spanV p c.1 = boundC p c) ∧ (c.1.length ≠ p.length → c.1.length < p.length ∧ boundR p c.1 c.2 = boundC p c) := by
  simp only [badCut, Bool.or_eq_false_iff, Bool.not_eq_false', decide_eq_false_iff_not] at hb
  obtain ⟨⟨h1, h2⟩, h3⟩ := hb
  refine ⟨fun h => ?_, fun h => ?_⟩
  · unfold boundC; rw [if_pos h, spanV_ok (finishE_ok hc h h1)]; rfl
  · have hl := rightB_len h1
    refine ⟨by omega, ?_⟩
    unfold boundC
    rw [if_neg h]
    have hp : p.length ≠ 0 := by omega
    have h4 : stV p = (ri p 0).length := by unfold stV; rw [if_neg hp]
    rw [boundR_ok (boundE_ok hc (by rw [h1]; rintro (h | h | h | h) <;> first | cases h | omega))]
end Go.Proofs.YtehbnckdllbmgaaGreatDoor
