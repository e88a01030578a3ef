/- The law TransportPlans. -/
import Derived.Test.YtpbmmdoodmbneaaDoorTrnRm
import Derived.Test.YtpbmmdoodmbneaaDoorTrnG
import Derived.Deep.DeepCutAuto

/- Contract: next of the reference. -/
namespace Go.Proofs.YtpbmmdoodmbneaaDoor
open Go.RowKit Go.Sort

def nxI : Option Nat → Int | none => -1 | some j => j
theorem mC_lt (a b : Mov) : mC a b < 0 ↔ a.ready < b.ready ∨ (a.ready = b.ready ∧ bytesC a.item b.item < 0) := by
  unfold mC cI
  by_cases h1 : a.ready < b.ready
  · simp [h1]
  · by_cases h2 : b.ready < a.ready
    · have : ¬ a.ready = b.ready := by omega
      simp [h1, h2, this]
    · have : a.ready = b.ready := by omega
      simp [h1, this]
/-- whether a move is taken in the place of the one so far -/
def resB (tk na : Bool) (x y : Mov) : Bool := cond (!tk) (cond (cond na true (decide (x.ready < y.ready))) true (cond (x.ready == y.ready) (Op.bytesLess (bs x.item).toList (bs y.item).toList) false)) false
theorem nextV_step (ms : List Mov) (tk : Nat → Bool) (k : Nat) : nextV ms tk (k + 1) = if resB (tk k) (nextV ms tk k).isNone (mvi ms k) (mvi ms ((nextV ms tk k).getD 0)) = true then some k else nextV ms tk k := by
  cases ht : tk k
  · cases hn : nextV ms tk k with
    | none => rw [nextV_first ht hn]; rfl
    | some j =>
      have e : resB false false (mvi ms k) (mvi ms j) = decide (mC (mvi ms k) (mvi ms j) < 0) := by
        rw [Bool.eq_iff_iff, decide_eq_true_eq, mC_lt]
        unfold resB
        rw [bs_toList, bs_toList, less_lt]
        simp only [Bool.not_false, cond_true, cond_false]
        by_cases h1 : (mvi ms k).ready < (mvi ms j).ready
        · simp [h1]
        · by_cases h2 : (mvi ms k).ready = (mvi ms j).ready
          · simp [h1, h2]
          · simp [h1, h2]
      show _ = if resB false false (mvi ms k) (mvi ms j) = true then _ else _
      rw [e]
      by_cases hl : mC (mvi ms k) (mvi ms j) < 0
      · rw [nextV_less ht hn hl, if_pos (by simpa using hl)]
      · rw [nextV_keep hn hl, if_neg (by simpa using hl)]
  · rw [nextV_skip ht]; rfl
theorem gd_if {p c : Bool} {A : Prop} {v x : Value} (hc : p = c) (hv : v = cond c x undef) (hA : c = true → A) : if p = true then A else v = undef := by
  subst hc
  cases p
  · rw [if_neg (by decide)]; exact hv
  · rw [if_pos rfl]; exact hA rfl
theorem gOn_at {ops : Array Oper} {V : Nat → Value} {i j : Nat} {o : Oper} {b f c : Bool} (ho : ops[i]? = some o) (hg : o.guard = some (j, b)) (hV : V j = cond f (.bool c) undef) : gOn ops V i = (f && (c == b)) := by
  unfold gOn
  rw [ho]
  dsimp only
  rw [hg]
  dsimp only
  rw [hV]
  cases f <;> rfl
theorem gOn_at0 {ops : Array Oper} {V : Nat → Value} {i j : Nat} {o : Oper} {b c : Bool} (ho : ops[i]? = some o) (hg : o.guard = some (j, b)) (hV : V j = .bool c) : gOn ops V i = (c == b) := by
  unfold gOn
  rw [ho]
  dsimp only
  rw [hg]
  dsimp only
  rw [hV]
theorem and_l {a b : Bool} (h : (a && b) = true) : a = true := by cases a <;> simp_all
theorem pk1 (c u d : Bool) (h : c = true) : (if u = true then Value.bool true else cond (c && (u == false)) (.bool d) undef) = cond c (.bool (cond u true d)) undef := by subst h; cases u <;> rfl
theorem pk2 (c u d : Bool) (h : c = true) : (if u = true then cond (c && (u == true)) (.bool d) undef else Value.bool false) = cond c (.bool (cond u d false)) undef := by subst h; cases u <;> rfl
theorem pk4 (u d : Bool) : (if u = true then cond (u == true) (.bool d) undef else Value.bool false) = .bool (cond u d false) := by cases u <;> rfl
theorem gd_on {p : Bool} {A B : Prop} (hp : p = true) (h : A) : if p = true then A else B := by rw [if_pos hp]; exact h
theorem cd {c : Bool} {x : Value} (hc : c = true) : cond c x undef = x := by subst hc; rfl
def nxd (i : Nat) : Nat := i + 13
def nxV (tk na : Bool) (tv mv : Value) (k j : Nat) (at_ : Int) (x y : Mov) (tb toff b off : Nat) : Nat → Value
  | 0 => tv
  | 1 => .int .i64 k
  | 2 => .pointer (some ⟨tb, toff + k, none⟩)
  | 3 => .bool tk
  | 4 => .bool (!tk)
  | 5 => .bool (!tk)
  | 6 => cond ((!tk) == true) (.int .i64 at_) undef
  | 7 => cond ((!tk) == true) (.bool na) undef
  | 8 => cond ((!tk) == true) (.bool na) undef
  | 9 => cond (((!tk) == true) && (na == false)) (mv) undef
  | 10 => cond (((!tk) == true) && (na == false)) (.int .i64 k) undef
  | 11 => cond (((!tk) == true) && (na == false)) (.pointer (some ⟨b, off + k * 5, none⟩)) undef
  | 12 => cond (((!tk) == true) && (na == false)) (.pointer (some ⟨b, off + k * 5 + 3, none⟩)) undef
  | 13 => cond (((!tk) == true) && (na == false)) (.int .i64 x.ready) undef
  | 14 => cond (((!tk) == true) && (na == false)) (mv) undef
  | 15 => cond (((!tk) == true) && (na == false)) (.int .i64 at_) undef
  | 16 => cond (((!tk) == true) && (na == false)) (.pointer (some ⟨b, off + j * 5, none⟩)) undef
  | 17 => cond (((!tk) == true) && (na == false)) (.pointer (some ⟨b, off + j * 5 + 3, none⟩)) undef
  | 18 => cond (((!tk) == true) && (na == false)) (.int .i64 y.ready) undef
  | 19 => cond (((!tk) == true) && (na == false)) (.bool (decide (x.ready < y.ready))) undef
  | 20 => cond ((!tk) == true) (.bool (cond na true (decide (x.ready < y.ready)))) undef
  | 21 => cond ((!tk) == true) (.bool (cond na true (decide (x.ready < y.ready)))) undef
  | 22 => cond (((!tk) == true) && ((cond na true (decide (x.ready < y.ready))) == false)) (mv) undef
  | 23 => cond (((!tk) == true) && ((cond na true (decide (x.ready < y.ready))) == false)) (.int .i64 k) undef
  | 24 => cond (((!tk) == true) && ((cond na true (decide (x.ready < y.ready))) == false)) (.pointer (some ⟨b, off + k * 5, none⟩)) undef
  | 25 => cond (((!tk) == true) && ((cond na true (decide (x.ready < y.ready))) == false)) (.pointer (some ⟨b, off + k * 5 + 3, none⟩)) undef
  | 26 => cond (((!tk) == true) && ((cond na true (decide (x.ready < y.ready))) == false)) (.int .i64 x.ready) undef
  | 27 => cond (((!tk) == true) && ((cond na true (decide (x.ready < y.ready))) == false)) (mv) undef
  | 28 => cond (((!tk) == true) && ((cond na true (decide (x.ready < y.ready))) == false)) (.int .i64 at_) undef
  | 29 => cond (((!tk) == true) && ((cond na true (decide (x.ready < y.ready))) == false)) (.pointer (some ⟨b, off + j * 5, none⟩)) undef
  | 30 => cond (((!tk) == true) && ((cond na true (decide (x.ready < y.ready))) == false)) (.pointer (some ⟨b, off + j * 5 + 3, none⟩)) undef
  | 31 => cond (((!tk) == true) && ((cond na true (decide (x.ready < y.ready))) == false)) (.int .i64 y.ready) undef
  | 32 => cond (((!tk) == true) && ((cond na true (decide (x.ready < y.ready))) == false)) (.bool (x.ready == y.ready)) undef
  | 33 => cond (((!tk) == true) && ((cond na true (decide (x.ready < y.ready))) == false)) (.bool (x.ready == y.ready)) undef
  | 34 => cond ((((!tk) == true) && ((cond na true (decide (x.ready < y.ready))) == false)) && ((x.ready == y.ready) == true)) (mv) undef
  | 35 => cond ((((!tk) == true) && ((cond na true (decide (x.ready < y.ready))) == false)) && ((x.ready == y.ready) == true)) (.int .i64 k) undef
  | 36 => cond ((((!tk) == true) && ((cond na true (decide (x.ready < y.ready))) == false)) && ((x.ready == y.ready) == true)) (.pointer (some ⟨b, off + k * 5, none⟩)) undef
  | 37 => cond ((((!tk) == true) && ((cond na true (decide (x.ready < y.ready))) == false)) && ((x.ready == y.ready) == true)) (.pointer (some ⟨b, off + k * 5 + 0, none⟩)) undef
  | 38 => cond ((((!tk) == true) && ((cond na true (decide (x.ready < y.ready))) == false)) && ((x.ready == y.ready) == true)) (.string (bs x.item)) undef
  | 39 => cond ((((!tk) == true) && ((cond na true (decide (x.ready < y.ready))) == false)) && ((x.ready == y.ready) == true)) (mv) undef
  | 40 => cond ((((!tk) == true) && ((cond na true (decide (x.ready < y.ready))) == false)) && ((x.ready == y.ready) == true)) (.int .i64 at_) undef
  | 41 => cond ((((!tk) == true) && ((cond na true (decide (x.ready < y.ready))) == false)) && ((x.ready == y.ready) == true)) (.pointer (some ⟨b, off + j * 5, none⟩)) undef
  | 42 => cond ((((!tk) == true) && ((cond na true (decide (x.ready < y.ready))) == false)) && ((x.ready == y.ready) == true)) (.pointer (some ⟨b, off + j * 5 + 0, none⟩)) undef
  | 43 => cond ((((!tk) == true) && ((cond na true (decide (x.ready < y.ready))) == false)) && ((x.ready == y.ready) == true)) (.string (bs y.item)) undef
  | 44 => cond ((((!tk) == true) && ((cond na true (decide (x.ready < y.ready))) == false)) && ((x.ready == y.ready) == true)) (.bool (Op.bytesLess (bs x.item).toList (bs y.item).toList)) undef
  | 45 => cond (((!tk) == true) && ((cond na true (decide (x.ready < y.ready))) == false)) (.bool (cond (x.ready == y.ready) (Op.bytesLess (bs x.item).toList (bs y.item).toList) false)) undef
  | 46 => cond ((!tk) == true) (.bool (cond (cond na true (decide (x.ready < y.ready))) true (cond (x.ready == y.ready) (Op.bytesLess (bs x.item).toList (bs y.item).toList) false))) undef
  | _ => .bool (resB tk na x y)
set_option maxHeartbeats 4000000 in
set_option maxRecDepth 100000 in
theorem rnext_any (mv tv : Value) (ms : List Mov) (tk : Nat → Bool) (w : World) (hm : SM w mv ms) (ht : Sl w tv ms.length fun i => .bool (tk i)) (hl : ms.length ≤ 128) :
    Calls Tryd.prog 34 #[mv, tv] w (Ret w (.int .i64 (nxI (nextV ms tk ms.length)))) := by
  obtain ⟨a, cap, rfl, h1, h2, h3⟩ := hm
  obtain ⟨ta, tc, rfl, k1, k2, k3⟩ := ht
  have H3 := Lib.hid h3
  have K3 := Lib.hid k3
  clear h3 k3 k2 h2
  go_enter Tryd.func34, Tryd.ntmps34
  go_wp2_with fail
  go_loopw [5, 6] (fun at_ i wr => ∃ k : Nat, k ≤ ms.length ∧ i = .int .i64 k ∧ at_ = .int .i64 (nxI (nextV ms tk k)) ∧ Hid (Below w.heap.size w wr)) (fun _ i _ => ms.length - (intOf i).toNat)
  case atStart => exact ⟨0, Nat.zero_le _, rfl, rfl, Below.refl _ _⟩
  case round =>
    obtain ⟨k, hk, rfl, rfl, hb⟩ := hrel
    by_cases hlt : k < ms.length
    · obtain ⟨b, off, rfl, hcx⟩ := H3.out k hlt
      obtain ⟨tb, toff, rfl, ct⟩ := K3.out k hlt
      have ct := cell_keep hb.out ct
      have hcx := hcx.keep hb.out
      have HS := Lib.hid (nextV_step ms tk k)
      have HJ : Hid ((nextV ms tk k).isNone = false → (nextV ms tk k).getD 0 < ms.length ∧ nxI (nextV ms tk k) = (((nextV ms tk k).getD 0 : Nat) : Int) ∧ MAt wr b (off + ((nextV ms tk k).getD 0) * 5) (mvi ms ((nextV ms tk k).getD 0))) := by
        intro hz
        cases hn : nextV ms tk k with
        | none => rw [hn] at hz; cases hz
        | some j =>
          obtain ⟨hj, _⟩ := nextV_lt hn
          obtain ⟨b', off', e, hcy⟩ := H3.out j (by omega)
          simp only [Option.some.injEq, Addr.mk.injEq] at e
          obtain ⟨rfl, rfl, _⟩ := e
          exact ⟨by show j < _; omega, rfl, hcy.keep hb.out⟩
      have HNA : Hid (decide (nxI (nextV ms tk k) < 0) = (nextV ms tk k).isNone) := by
        show _ = _
        cases nextV ms tk k with
        | none => rfl
        | some j => show decide ((j : Int) < 0) = false; rw [decide_eq_false_iff_not]; omega
      obtain ⟨nx, hnx⟩ : ∃ nx, nextV ms tk k = nx := ⟨_, rfl⟩
      rw [hnx] at HS HJ HNA ⊢
      clear hnx
      obtain ⟨j, hj⟩ : ∃ j, nx.getD 0 = j := ⟨_, rfl⟩
      obtain ⟨na, hna⟩ : ∃ na, nx.isNone = na := ⟨_, rfl⟩
      obtain ⟨at_, hat⟩ : ∃ at_, nxI nx = at_ := ⟨_, rfl⟩
      rw [hj, hna] at HS
      rw [hj, hna, hat] at HJ
      rw [hna, hat] at HNA
      rw [hat]
      have HAT := Lib.hid hat
      clear hj hna hat
      obtain ⟨y, hy⟩ : ∃ y, mvi ms j = y := ⟨_, rfl⟩
      obtain ⟨x, hx⟩ : ∃ x, mvi ms k = x := ⟨_, rfl⟩
      rw [hx] at hcx HS
      rw [hy] at HS HJ
      clear hx hy
      obtain ⟨tkk, htk⟩ : ∃ t, tk k = t := ⟨_, rfl⟩
      rw [htk] at ct HS
      clear htk
      have i1 : (k : Int) < (ms.length : Int) := by omega
      go_wp2_with fail
      refine wp_name fun a0 ha0 => ?_
      have z0 : a0.eval (.tmp 0) = .slice (some ⟨b, off, none⟩) ms.length cap := by rw [ha0]; rfl
      have z1 : a0.eval (.tmp 1) = .slice (some ⟨tb, toff, none⟩) ms.length tc := by rw [ha0]; rfl
      have z5 : a0.eval (.tmp 5) = .int .i64 at_ := by rw [ha0]; rfl
      have z6 : a0.eval (.tmp 6) = .int .i64 k := by rw [ha0]; rfl
      refine wp_region_gd nxd (nxV tkk na (.slice (some ⟨tb, toff, none⟩) ms.length tc) (.slice (some ⟨b, off, none⟩) ms.length cap) k j at_ x y tb toff b off) (fun w' => Below wr.heap.size wr w') mixed (by kernel_rfl) (by rw [ha0]; rfl) (by kernel_rfl) (Below.refl _ _).drew ?_ ?_
      · rintro i op a w7 hop hdep hsm hb7 K hK
        have hi : i < 48 := (Array.getElem?_eq_some_iff.1 hop).1
        have q0 := (hsm.eval (m := 0) (by decide)).trans z0
        have q1 := (hsm.eval (m := 1) (by decide)).trans z1
        have q5 := (hsm.eval (m := 5) (by decide)).trans z5
        have q6 := (hsm.eval (m := 6) (by decide)).trans z6
        have ct7 := cell_keep hb7 ct
        have hx7 := hcx.keep hb7
        have d8 : (((!tkk) == true) && (na == false)) = true → na = false := by cases na <;> simp
        have d21 : (((!tkk) == true) && ((cond na true (decide (x.ready < y.ready))) == false)) = true → na = false := by cases na <;> simp
        have d33 : ((((!tkk) == true) && ((cond na true (decide (x.ready < y.ready))) == false)) && ((x.ready == y.ready) == true)) = true → na = false := by cases na <;> simp
        have dv : ∀ e ∈ op.after, Region.binds .any e = true → a.eval (.tmp (nxd e.on)) = nxV tkk na (.slice (some ⟨tb, toff, none⟩) ms.length tc) (.slice (some ⟨b, off, none⟩) ms.length cap) k j at_ x y tb toff b off e.on := fun e he hbi => hdep e he hbi
        have hn : ∀ v, v = nxV tkk na (.slice (some ⟨tb, toff, none⟩) ms.length tc) (.slice (some ⟨b, off, none⟩) ms.length cap) k j at_ x y tb toff b off i → K (a.put op.dst v) w7 := fun v hv => hK _ _ hb7 hv
        have hcase : i = 0 ∨ i = 1 ∨ i = 2 ∨ i = 3 ∨ i = 4 ∨ i = 5 ∨ i = 6 ∨ i = 7 ∨ i = 8 ∨ i = 9 ∨ i = 10 ∨ i = 11 ∨ i = 12 ∨ i = 13 ∨ i = 14 ∨ i = 15 ∨ i = 16 ∨ i = 17 ∨ i = 18 ∨ i = 19 ∨ i = 20 ∨ i = 21 ∨ i = 22 ∨ i = 23 ∨ i = 24 ∨ i = 25 ∨ i = 26 ∨ i = 27 ∨ i = 28 ∨ i = 29 ∨ i = 30 ∨ i = 31 ∨ i = 32 ∨ i = 33 ∨ i = 34 ∨ i = 35 ∨ i = 36 ∨ i = 37 ∨ i = 38 ∨ i = 39 ∨ i = 40 ∨ i = 41 ∨ i = 42 ∨ i = 43 ∨ i = 44 ∨ i = 45 ∨ i = 46 ∨ i = 47 := by omega
        rcases hcase with h | h | h | h | h | h | h | h | h | h | h | h | h | h | h | h | h | h | h | h | h | h | h | h | h | h | h | h | h | h | h | h | h | h | h | h | h | h | h | h | h | h | h | h | h | h | h | h <;> subst h <;> have ho' := Option.some.inj hop <;> subst ho'
        · refine gd_on rfl ?_; exact vl_move (.tmp 1) rfl _ q1 (hn _ rfl)
        · refine gd_on rfl ?_; exact vl_move (.tmp 6) rfl _ q6 (hn _ rfl)
        · refine gd_on rfl ?_; exact ix_bools (.tmp 13) (.tmp 14) tb toff ms.length tc k rfl (dv ⟨0, .data⟩ (by simp) rfl) (dv ⟨1, .data⟩ (by simp) rfl) hlt k1 (hn _ rfl)
        · refine gd_on rfl ?_; exact vl_load 4 agg_bool (.tmp 15) rfl _ _ (dv ⟨2, .data⟩ (by simp) rfl) ct7 (hn _ rfl)
        · refine gd_on rfl ?_; exact vl_not (.tmp 16) _ rfl tkk (dv ⟨3, .data⟩ (by simp) rfl) (hn _ rfl)
        · refine gd_on rfl ?_; exact vl_move (.tmp 17) rfl _ (dv ⟨4, .data⟩ (by simp) rfl) (hn _ rfl)
        · refine gd_if (gOn_at0 rfl rfl rfl) rfl fun hc => ?_
          exact vl_move (.tmp 5) rfl _ q5 (hn _ (cd hc).symm)
        · refine gd_if (gOn_at0 rfl rfl rfl) rfl fun hc => ?_
          exact lt_ints (.tmp 19) _ rfl at_ 0 ((dv ⟨6, .data⟩ (by simp) rfl).trans (cd hc)) rfl (hn _ (by rw [HNA.out]; exact (cd hc).symm))
        · refine gd_if (gOn_at0 rfl rfl rfl) rfl fun hc => ?_
          exact vl_move (.tmp 20) rfl _ ((dv ⟨7, .data⟩ (by simp) rfl).trans (cd hc)) (hn _ (cd hc).symm)
        · refine gd_if (gOn_at rfl rfl rfl) rfl fun hc => ?_
          exact vl_move (.tmp 0) rfl _ q0 (hn _ (cd hc).symm)
        · refine gd_if (gOn_at rfl rfl rfl) rfl fun hc => ?_
          exact vl_move (.tmp 6) rfl _ q6 (hn _ (cd hc).symm)
        · refine gd_if (gOn_at rfl rfl rfl) rfl fun hc => ?_
          exact ix_moves (.tmp 22) (.tmp 23) b off ms.length cap k rfl ((dv ⟨9, .data⟩ (by simp) rfl).trans (cd hc)) ((dv ⟨10, .data⟩ (by simp) rfl).trans (cd hc)) hlt h1 (hn _ (cd hc).symm)
        · refine gd_if (gOn_at rfl rfl rfl) rfl fun hc => ?_
          exact fa_move (.tmp 24) 3 (by omega) rfl b (off + k * 5) ((dv ⟨11, .data⟩ (by simp) rfl).trans (cd hc)) (hn _ (cd hc).symm)
        · refine gd_if (gOn_at rfl rfl rfl) rfl fun hc => ?_
          exact vl_load 3 agg_int0 (.tmp 25) rfl _ _ ((dv ⟨12, .data⟩ (by simp) rfl).trans (cd hc)) hx7.c3 (hn _ (cd hc).symm)
        · refine gd_if (gOn_at rfl rfl rfl) rfl fun hc => ?_
          exact vl_move (.tmp 0) rfl _ q0 (hn _ (cd hc).symm)
        · refine gd_if (gOn_at rfl rfl rfl) rfl fun hc => ?_
          exact vl_move (.tmp 5) rfl _ q5 (hn _ (cd hc).symm)
        · refine gd_if (gOn_at rfl rfl rfl) rfl fun hc => ?_
          exact ix_moves (.tmp 27) (.tmp 28) b off ms.length cap j rfl ((dv ⟨14, .data⟩ (by simp) rfl).trans (cd hc)) (((dv ⟨15, .data⟩ (by simp) rfl).trans (cd hc)).trans (by rw [(HJ.out (d8 hc)).2.1])) (HJ.out (d8 hc)).1 h1 (hn _ (cd hc).symm)
        · refine gd_if (gOn_at rfl rfl rfl) rfl fun hc => ?_
          exact fa_move (.tmp 29) 3 (by omega) rfl b (off + j * 5) ((dv ⟨16, .data⟩ (by simp) rfl).trans (cd hc)) (hn _ (cd hc).symm)
        · refine gd_if (gOn_at rfl rfl rfl) rfl fun hc => ?_
          exact vl_load 3 agg_int0 (.tmp 30) rfl _ _ ((dv ⟨17, .data⟩ (by simp) rfl).trans (cd hc)) ((HJ.out (d8 hc)).2.2.keep hb7).c3 (hn _ (cd hc).symm)
        · refine gd_if (gOn_at rfl rfl rfl) rfl fun hc => ?_
          exact lt_ints (.tmp 26) (.tmp 31) rfl _ _ ((dv ⟨13, .data⟩ (by simp) rfl).trans (cd hc)) ((dv ⟨18, .data⟩ (by simp) rfl).trans (cd hc)) (hn _ (cd hc).symm)
        · refine gd_if (gOn_at0 rfl rfl rfl) rfl fun hc => ?_
          exact vl_pick (.tmp 21) (.const (.bool true)) ((.tmp 32)) rfl na _ _ ((dv ⟨8, .data⟩ (by simp) rfl).trans (cd hc)) rfl (dv ⟨19, .data⟩ (by simp) rfl) (hn _ (pk1 _ _ _ hc))
        · refine gd_if (gOn_at0 rfl rfl rfl) rfl fun hc => ?_
          exact vl_move (.tmp 33) rfl _ ((dv ⟨20, .data⟩ (by simp) rfl).trans (cd hc)) (hn _ (cd hc).symm)
        · refine gd_if (gOn_at rfl rfl rfl) rfl fun hc => ?_
          exact vl_move (.tmp 0) rfl _ q0 (hn _ (cd hc).symm)
        · refine gd_if (gOn_at rfl rfl rfl) rfl fun hc => ?_
          exact vl_move (.tmp 6) rfl _ q6 (hn _ (cd hc).symm)
        · refine gd_if (gOn_at rfl rfl rfl) rfl fun hc => ?_
          exact ix_moves (.tmp 35) (.tmp 36) b off ms.length cap k rfl ((dv ⟨22, .data⟩ (by simp) rfl).trans (cd hc)) ((dv ⟨23, .data⟩ (by simp) rfl).trans (cd hc)) hlt h1 (hn _ (cd hc).symm)
        · refine gd_if (gOn_at rfl rfl rfl) rfl fun hc => ?_
          exact fa_move (.tmp 37) 3 (by omega) rfl b (off + k * 5) ((dv ⟨24, .data⟩ (by simp) rfl).trans (cd hc)) (hn _ (cd hc).symm)
        · refine gd_if (gOn_at rfl rfl rfl) rfl fun hc => ?_
          exact vl_load 3 agg_int0 (.tmp 38) rfl _ _ ((dv ⟨25, .data⟩ (by simp) rfl).trans (cd hc)) hx7.c3 (hn _ (cd hc).symm)
        · refine gd_if (gOn_at rfl rfl rfl) rfl fun hc => ?_
          exact vl_move (.tmp 0) rfl _ q0 (hn _ (cd hc).symm)
        · refine gd_if (gOn_at rfl rfl rfl) rfl fun hc => ?_
          exact vl_move (.tmp 5) rfl _ q5 (hn _ (cd hc).symm)
        · refine gd_if (gOn_at rfl rfl rfl) rfl fun hc => ?_
          exact ix_moves (.tmp 40) (.tmp 41) b off ms.length cap j rfl ((dv ⟨27, .data⟩ (by simp) rfl).trans (cd hc)) (((dv ⟨28, .data⟩ (by simp) rfl).trans (cd hc)).trans (by rw [(HJ.out (d21 hc)).2.1])) (HJ.out (d21 hc)).1 h1 (hn _ (cd hc).symm)
        · refine gd_if (gOn_at rfl rfl rfl) rfl fun hc => ?_
          exact fa_move (.tmp 42) 3 (by omega) rfl b (off + j * 5) ((dv ⟨29, .data⟩ (by simp) rfl).trans (cd hc)) (hn _ (cd hc).symm)
        · refine gd_if (gOn_at rfl rfl rfl) rfl fun hc => ?_
          exact vl_load 3 agg_int0 (.tmp 43) rfl _ _ ((dv ⟨30, .data⟩ (by simp) rfl).trans (cd hc)) ((HJ.out (d21 hc)).2.2.keep hb7).c3 (hn _ (cd hc).symm)
        · refine gd_if (gOn_at rfl rfl rfl) rfl fun hc => ?_
          exact eq_ints 3 _ Tryd.underlying3 (.tmp 39) (.tmp 44) rfl _ _ ((dv ⟨26, .data⟩ (by simp) rfl).trans (cd hc)) ((dv ⟨31, .data⟩ (by simp) rfl).trans (cd hc)) (hn _ (cd hc).symm)
        · refine gd_if (gOn_at rfl rfl rfl) rfl fun hc => ?_
          exact vl_move (.tmp 45) rfl _ ((dv ⟨32, .data⟩ (by simp) rfl).trans (cd hc)) (hn _ (cd hc).symm)
        · refine gd_if (gOn_at rfl rfl rfl) rfl fun hc => ?_
          exact vl_move (.tmp 0) rfl _ q0 (hn _ (cd hc).symm)
        · refine gd_if (gOn_at rfl rfl rfl) rfl fun hc => ?_
          exact vl_move (.tmp 6) rfl _ q6 (hn _ (cd hc).symm)
        · refine gd_if (gOn_at rfl rfl rfl) rfl fun hc => ?_
          exact ix_moves (.tmp 47) (.tmp 48) b off ms.length cap k rfl ((dv ⟨34, .data⟩ (by simp) rfl).trans (cd hc)) ((dv ⟨35, .data⟩ (by simp) rfl).trans (cd hc)) hlt h1 (hn _ (cd hc).symm)
        · refine gd_if (gOn_at rfl rfl rfl) rfl fun hc => ?_
          exact fa_move (.tmp 49) 0 (by omega) rfl b (off + k * 5) ((dv ⟨36, .data⟩ (by simp) rfl).trans (cd hc)) (hn _ (cd hc).symm)
        · refine gd_if (gOn_at rfl rfl rfl) rfl fun hc => ?_
          exact vl_load 9 agg_string (.tmp 50) rfl _ _ ((dv ⟨37, .data⟩ (by simp) rfl).trans (cd hc)) hx7.c0 (hn _ (cd hc).symm)
        · refine gd_if (gOn_at rfl rfl rfl) rfl fun hc => ?_
          exact vl_move (.tmp 0) rfl _ q0 (hn _ (cd hc).symm)
        · refine gd_if (gOn_at rfl rfl rfl) rfl fun hc => ?_
          exact vl_move (.tmp 5) rfl _ q5 (hn _ (cd hc).symm)
        · refine gd_if (gOn_at rfl rfl rfl) rfl fun hc => ?_
          exact ix_moves (.tmp 52) (.tmp 53) b off ms.length cap j rfl ((dv ⟨39, .data⟩ (by simp) rfl).trans (cd hc)) (((dv ⟨40, .data⟩ (by simp) rfl).trans (cd hc)).trans (by rw [(HJ.out (d33 hc)).2.1])) (HJ.out (d33 hc)).1 h1 (hn _ (cd hc).symm)
        · refine gd_if (gOn_at rfl rfl rfl) rfl fun hc => ?_
          exact fa_move (.tmp 54) 0 (by omega) rfl b (off + j * 5) ((dv ⟨41, .data⟩ (by simp) rfl).trans (cd hc)) (hn _ (cd hc).symm)
        · refine gd_if (gOn_at rfl rfl rfl) rfl fun hc => ?_
          exact vl_load 9 agg_string (.tmp 55) rfl _ _ ((dv ⟨42, .data⟩ (by simp) rfl).trans (cd hc)) ((HJ.out (d33 hc)).2.2.keep hb7).c0 (hn _ (cd hc).symm)
        · refine gd_if (gOn_at rfl rfl rfl) rfl fun hc => ?_
          exact lt_strs (.tmp 51) (.tmp 56) rfl _ _ ((dv ⟨38, .data⟩ (by simp) rfl).trans (cd hc)) ((dv ⟨43, .data⟩ (by simp) rfl).trans (cd hc)) (hn _ (cd hc).symm)
        · refine gd_if (gOn_at rfl rfl rfl) rfl fun hc => ?_
          exact vl_pick (.tmp 46) ((.tmp 57)) (.const (.bool false)) rfl (x.ready == y.ready) _ _ ((dv ⟨33, .data⟩ (by simp) rfl).trans (cd hc)) (dv ⟨44, .data⟩ (by simp) rfl) rfl (hn _ (pk2 _ _ _ hc))
        · refine gd_if (gOn_at0 rfl rfl rfl) rfl fun hc => ?_
          exact vl_pick (.tmp 34) (.const (.bool true)) ((.tmp 58)) rfl (cond na true (decide (x.ready < y.ready))) _ _ ((dv ⟨21, .data⟩ (by simp) rfl).trans (cd hc)) rfl (dv ⟨45, .data⟩ (by simp) rfl) (hn _ (pk1 _ _ _ hc))
        · refine gd_on rfl ?_; exact vl_pick (.tmp 18) ((.tmp 59)) (.const (.bool false)) rfl (!tkk) _ _ (dv ⟨5, .data⟩ (by simp) rfl) (dv ⟨46, .data⟩ (by simp) rfl) rfl (hn _ (pk4 _ _))
      · rintro a w7 hsm hb7 hv
        have v60 : a.eval (.tmp 60) = .bool (resB tkk na x y) := hv 47 (by decide)
        have hsm' : Sm [13, 14, 15, 16, 17, 18, 19, 20, 21, 22, 23, 24, 25, 26, 27, 28, 29, 30, 31, 32, 33, 34, 35, 36, 37, 38, 39, 40, 41, 42, 43, 44, 45, 46, 47, 48, 49, 50, 51, 52, 53, 54, 55, 56, 57, 58, 59, 60] a0 a := hsm
        have HA := hsm'.lit
        simp only [List.foldl] at HA
        rw [v60] at HA
        generalize a.eval (.tmp 13) = t13 at HA
        generalize a.eval (.tmp 14) = t14 at HA
        generalize a.eval (.tmp 15) = t15 at HA
        generalize a.eval (.tmp 16) = t16 at HA
        generalize a.eval (.tmp 17) = t17 at HA
        generalize a.eval (.tmp 18) = t18 at HA
        generalize a.eval (.tmp 19) = t19 at HA
        generalize a.eval (.tmp 20) = t20 at HA
        generalize a.eval (.tmp 21) = t21 at HA
        generalize a.eval (.tmp 22) = t22 at HA
        generalize a.eval (.tmp 23) = t23 at HA
        generalize a.eval (.tmp 24) = t24 at HA
        generalize a.eval (.tmp 25) = t25 at HA
        generalize a.eval (.tmp 26) = t26 at HA
        generalize a.eval (.tmp 27) = t27 at HA
        generalize a.eval (.tmp 28) = t28 at HA
        generalize a.eval (.tmp 29) = t29 at HA
        generalize a.eval (.tmp 30) = t30 at HA
        generalize a.eval (.tmp 31) = t31 at HA
        generalize a.eval (.tmp 32) = t32 at HA
        generalize a.eval (.tmp 33) = t33 at HA
        generalize a.eval (.tmp 34) = t34 at HA
        generalize a.eval (.tmp 35) = t35 at HA
        generalize a.eval (.tmp 36) = t36 at HA
        generalize a.eval (.tmp 37) = t37 at HA
        generalize a.eval (.tmp 38) = t38 at HA
        generalize a.eval (.tmp 39) = t39 at HA
        generalize a.eval (.tmp 40) = t40 at HA
        generalize a.eval (.tmp 41) = t41 at HA
        generalize a.eval (.tmp 42) = t42 at HA
        generalize a.eval (.tmp 43) = t43 at HA
        generalize a.eval (.tmp 44) = t44 at HA
        generalize a.eval (.tmp 45) = t45 at HA
        generalize a.eval (.tmp 46) = t46 at HA
        generalize a.eval (.tmp 47) = t47 at HA
        generalize a.eval (.tmp 48) = t48 at HA
        generalize a.eval (.tmp 49) = t49 at HA
        generalize a.eval (.tmp 50) = t50 at HA
        generalize a.eval (.tmp 51) = t51 at HA
        generalize a.eval (.tmp 52) = t52 at HA
        generalize a.eval (.tmp 53) = t53 at HA
        generalize a.eval (.tmp 54) = t54 at HA
        generalize a.eval (.tmp 55) = t55 at HA
        generalize a.eval (.tmp 56) = t56 at HA
        generalize a.eval (.tmp 57) = t57 at HA
        generalize a.eval (.tmp 58) = t58 at HA
        generalize a.eval (.tmp 59) = t59 at HA
        rw [HA, ha0]
        simp only [Act.put, List.setIfInBounds_toArray, List.set_cons_zero, List.set_cons_succ]
        clear HA hsm hsm' hv v60 ha0 z0 z1 z5 z6 HJ HNA hcx ct
        cases hr : resB tkk na x y
        · have HN : Hid (nextV ms tk (k + 1) = nx) := by show _ = _; rw [HS.out, hr]; rfl
          clear hr
          go_wp2_with fail
          go_roundw
          case rel => exact ⟨k + 1, by omega, by go_num, by rw [HN.out, HAT.out], ext_trans hb.out hb7⟩
          case measure => simp [intOf]; omega
        · have HN : Hid (nextV ms tk (k + 1) = some k) := by show _ = _; rw [HS.out, hr]; rfl
          clear hr
          go_wp2_with fail
          go_roundw
          case rel => exact ⟨k + 1, by omega, by go_num, by rw [HN.out]; rfl, ext_trans hb.out hb7⟩
          case measure => simp [intOf]; omega
    · have e : ms.length = k := by omega
      have HR : Hid (nextV ms tk ms.length = nextV ms tk k) := by show _ = _; rw [e]
      have i1 : ¬ (k : Int) < (ms.length : Int) := by omega
      clear e
      go_wp2_with fail
      go_ret
      exact ⟨ret_int (by rw [HR.out]), hb.out⟩
end Go.Proofs.YtpbmmdoodmbneaaDoor

/- The reference's plan: its four lists in memory. -/
namespace Go.Proofs.YtpbmmdoodmbneaaDoor
open Go.RowKit

theorem Tryd_infoBool : (Tryd.prog.info? 4).map (fun i => (i.zero, i.size, i.bytes)) = some (some (.bool false), 1, 1) := by kernel_rfl
def blL (f : Nat → Bool) (n : Nat) : List Value := (List.range n).map fun i => .bool (f i)
theorem blL_len (f : Nat → Bool) (n : Nat) : (blL f n).length = n := by simp [blL]
theorem blL_get (f : Nat → Bool) {n k : Nat} (h : k < n) : (blL f n)[k]? = some (.bool (f k)) := by simp [blL, h]
theorem blL_set (f : Nat → Bool) (n k : Nat) : (blL f n).set k (.bool true) = blL (fun i => if i = k then true else f i) n := by
  apply List.ext_getElem
  · simp [blL]
  · intro i h1 h2
    rw [List.getElem_set]
    simp only [blL, List.getElem_map, List.getElem_range]
    by_cases e : k = i
    · rw [if_pos e, if_pos e.symm]
    · rw [if_neg e, if_neg (fun h => e h.symm)]
theorem blL_made (n : Nat) : (madeCells #[Value.bool false] n).toList = blL (fun _ => false) n := by
  rw [toList_madeCells_one]
  apply List.ext_getElem
  · simp [blL]
  · intro i h1 h2; simp [blL]
/-- a list of Booleans of its own -/
def OwnB (w : World) (B : Nat) (v : Value) (n : Nat) (f : Nat → Bool) : Prop := w.ownsRow B 4 1 v n (blL f n)
theorem OwnB.cellH {w : World} {B g n : Nat} {f : Nat → Bool} (h : OwnB w B (.slice (some ⟨g, 0, none⟩) n n) n f) {k : Nat} (hk : k < n) : w.cell? ⟨g, k, none⟩ = some (.bool (f k)) := by
  have h' : w.ownsRow B 4 1 (.slice (some ⟨g, 0, none⟩) n n) n (blL f n) := h
  rw [h'.cellAt k (by omega), blL_get f hk]
theorem OwnB.fzH {w : World} {B g n : Nat} {f : Nat → Bool} (h : OwnB w B (.slice (some ⟨g, 0, none⟩) n n) n f) (k : Nat) : w.frozen? ⟨g, k, none⟩ = false := by
  have h' : w.ownsRow B 4 1 (.slice (some ⟨g, 0, none⟩) n n) n (blL f n) := h
  exact h'.frozenAt k
theorem OwnB.setH {w : World} {B g n : Nat} {f : Nat → Bool} (h : OwnB w B (.slice (some ⟨g, 0, none⟩) n n) n f) (k : Nat) : OwnB (w.setCell ⟨g, k, none⟩ (.bool true)) B (.slice (some ⟨g, 0, none⟩) n n) n fun i => if i = k then true else f i := by
  have h' : w.ownsRow B 4 1 (.slice (some ⟨g, 0, none⟩) n n) n (blL f n) := h
  have := (h'.stored k (.bool true)).1
  unfold OwnB
  rw [← blL_set]
  exact this
theorem OwnB.keptH {w w' : World} {B n : Nat} {v : Value} {f : Nat → Bool} {row : Option Nat} (h : OwnB w B v n f) (hg : w.grownBy w' row) (hne : v.ownBlock = none ∨ v.ownBlock ≠ row) : OwnB w' B v n f := World.ownsRow.kept h hg hne
theorem OwnB.sl {w : World} {B g n : Nat} {f : Nat → Bool} (h : OwnB w B (.slice (some ⟨g, 0, none⟩) n n) n f) (hn : n ≤ maxLen) : Sl w (.slice (some ⟨g, 0, none⟩) n n) n fun i => .bool (f i) :=
  ⟨_, n, rfl, Nat.le_refl _, hn, fun i hi => ⟨g, 0, rfl, by rw [Nat.zero_add]; exact h.cellH hi⟩⟩
/-- the four lists: taken, place, end, used -/
structure RP (w0 : World) (B g1 g2 g3 g4 nm nt : Nat) (W : World) (tk us : Nat → Bool) (pl en : List Int) : Prop where
  od : w0.heap.size ≤ g1 ∧ g1 < g2 ∧ g2 < g3 ∧ g3 < g4 ∧ g4 < B
  bs : B ≤ W.heap.size
  hb : Below w0.heap.size w0 W
  t : OwnB W w0.heap.size (.slice (some ⟨g1, 0, none⟩) nm nm) nm tk
  p : OwnI W w0.heap.size (.slice (some ⟨g2, 0, none⟩) nt nt) pl
  e : OwnI W w0.heap.size (.slice (some ⟨g3, 0, none⟩) nt nt) en
  u : OwnB W w0.heap.size (.slice (some ⟨g4, 0, none⟩) nt nt) nt us
section
variable {w0 W W' : World} {B g1 g2 g3 g4 nm nt : Nat} {tk us : Nat → Bool} {pl en : List Int}
theorem RP.grown (h : RP w0 B g1 g2 g3 g4 nm nt W tk us pl en) {row : Option Nat} (hg : W.grownBy W' row) (hr : ∀ b, row = some b → B ≤ b) : RP w0 B g1 g2 g3 g4 nm nt W' tk us pl en := by
  obtain ⟨a0, a1, a2, a3, a4⟩ := h.od
  have ne : ∀ g, g < B → some g ≠ row := fun g hg' e => by have := hr g e.symm; omega
  refine ⟨h.od, Nat.le_trans h.bs hg.size, below_own h.hb hg (fun k hk => by have := hr k hk; omega), h.t.keptH hg (.inr ?_), h.p.keptH hg (.inr ?_), h.e.keptH hg (.inr ?_), h.u.keptH hg (.inr ?_)⟩
  · exact ne g1 (by omega)
  · exact ne g2 (by omega)
  · exact ne g3 (by omega)
  · exact ne g4 (by omega)
theorem RP.below (h : RP w0 B g1 g2 g3 g4 nm nt W tk us pl en) (hb : Below W.heap.size W W') : RP w0 B g1 g2 g3 g4 nm nt W' tk us pl en := h.grown (grownBy_of_below hb none) (fun b hb => by cases hb)
theorem RP.setT (h : RP w0 B g1 g2 g3 g4 nm nt W tk us pl en) (k : Nat) : RP w0 B g1 g2 g3 g4 nm nt (W.setCell ⟨g1, k, none⟩ (.bool true)) (fun i => if i = k then true else tk i) us pl en := by
  obtain ⟨a0, a1, a2, a3, a4⟩ := h.od
  have hg := grownBy_set W g1 k (.bool true)
  exact ⟨h.od, Nat.le_trans h.bs hg.size, below_own h.hb hg (fun b hb => by cases hb; omega), h.t.setH k, h.p.keptH hg (.inr fun e => absurd (Option.some.inj (show some g2 = some g1 from e)) (by omega)), h.e.keptH hg (.inr fun e => absurd (Option.some.inj (show some g3 = some g1 from e)) (by omega)), h.u.keptH hg (.inr fun e => absurd (Option.some.inj (show some g4 = some g1 from e)) (by omega))⟩
theorem RP.setP (h : RP w0 B g1 g2 g3 g4 nm nt W tk us pl en) (k : Nat) (x : Int) : RP w0 B g1 g2 g3 g4 nm nt (W.setCell ⟨g2, k, none⟩ (.int .i64 x)) tk us (pl.set k x) en := by
  obtain ⟨a0, a1, a2, a3, a4⟩ := h.od
  have hg := grownBy_set W g2 k (.int .i64 x)
  exact ⟨h.od, Nat.le_trans h.bs hg.size, below_own h.hb hg (fun b hb => by cases hb; omega), h.t.keptH hg (.inr fun e => absurd (Option.some.inj (show some g1 = some g2 from e)) (by omega)), h.p.setH k x, h.e.keptH hg (.inr fun e => absurd (Option.some.inj (show some g3 = some g2 from e)) (by omega)), h.u.keptH hg (.inr fun e => absurd (Option.some.inj (show some g4 = some g2 from e)) (by omega))⟩
theorem RP.setE (h : RP w0 B g1 g2 g3 g4 nm nt W tk us pl en) (k : Nat) (x : Int) : RP w0 B g1 g2 g3 g4 nm nt (W.setCell ⟨g3, k, none⟩ (.int .i64 x)) tk us pl (en.set k x) := by
  obtain ⟨a0, a1, a2, a3, a4⟩ := h.od
  have hg := grownBy_set W g3 k (.int .i64 x)
  exact ⟨h.od, Nat.le_trans h.bs hg.size, below_own h.hb hg (fun b hb => by cases hb; omega), h.t.keptH hg (.inr fun e => absurd (Option.some.inj (show some g1 = some g3 from e)) (by omega)), h.p.keptH hg (.inr fun e => absurd (Option.some.inj (show some g2 = some g3 from e)) (by omega)), h.e.setH k x, h.u.keptH hg (.inr fun e => absurd (Option.some.inj (show some g4 = some g3 from e)) (by omega))⟩
theorem RP.setU (h : RP w0 B g1 g2 g3 g4 nm nt W tk us pl en) (k : Nat) : RP w0 B g1 g2 g3 g4 nm nt (W.setCell ⟨g4, k, none⟩ (.bool true)) tk (fun i => if i = k then true else us i) pl en := by
  obtain ⟨a0, a1, a2, a3, a4⟩ := h.od
  have hg := grownBy_set W g4 k (.bool true)
  exact ⟨h.od, Nat.le_trans h.bs hg.size, below_own h.hb hg (fun b hb => by cases hb; omega), h.t.keptH hg (.inr fun e => absurd (Option.some.inj (show some g1 = some g4 from e)) (by omega)), h.p.keptH hg (.inr fun e => absurd (Option.some.inj (show some g2 = some g4 from e)) (by omega)), h.e.keptH hg (.inr fun e => absurd (Option.some.inj (show some g3 = some g4 from e)) (by omega)), h.u.setH k⟩
end
section
variable {o : Oper} {a : Act} {w : World} {K : Act → World → Prop} {Q : Exit → Act → World → Prop}
theorem ix_trucks (x y : Operand) (b off n c : Nat) (i : Nat) (ho : o.op = .indexAddr 22 x y) (hx : a.eval x = .slice (some ⟨b, off, none⟩) n c) (hy : a.eval y = .int .i64 i) (hi : i < n) (hc : n ≤ c)
    (h : K (a.put o.dst (.pointer (some ⟨b, off + i * 3, none⟩))) w) : o.wp Tryd.prog a w K Q := by
  have i1 : (i : Int) < n := by omega
  have i2 : (i : Int) < c := by omega
  unfold Oper.wp execOp
  simp only [ho]
  generalize a.eval = ev at *
  go_simp
  exact h
theorem enter_rempty : ∀ args w, (callFunc 35 args).run Tryd.prog w = .ok (.enter 35 args) w := enters_of Tryd.func35 (by kernel_rfl) rfl
theorem enter_rHours : ∀ args w, (callFunc 14 args).run Tryd.prog w = .ok (.enter 14 args) w := enters_of Tryd.func14 (by kernel_rfl) rfl
end
def r25d (i : Nat) : Nat := if i = 19 then 21 else i + 84
def r25V (m : Mov) (tt : Trk) (i pto mf : Nat) (fn em s : Int) (g3 g2 nt : Nat) (kv dv : Value) (b off M : Nat) : Nat → Value
  | 0 => .int .i64 m.ready
  | 1 => .slice (some ⟨g3, 0, none⟩) nt nt
  | 2 => .int .i64 i
  | 3 => .pointer (some ⟨g3, 0 + i, none⟩)
  | 4 => .int .i64 fn
  | 5 => kv
  | 6 => .int .i64 i
  | 7 => .pointer (some ⟨b, off + i * 3, none⟩)
  | 8 => .agg #[.string (bs tt.name), .int .i64 tt.load, .int .i64 tt.hours]
  | 9 => dv
  | 10 => .slice (some ⟨g2, 0, none⟩) nt nt
  | 11 => .int .i64 i
  | 12 => .pointer (some ⟨g2, 0 + i, none⟩)
  | 13 => .int .i64 pto
  | 14 => .pointer (some ⟨M, 1, none⟩)
  | 15 => .int .i64 mf
  | 16 => .int .i64 em
  | 17 => .int .i64 (fn + em)
  | _ => .int .i64 s
def r26d (i : Nat) : Nat := if i = 21 then 22 else i + 103
def r26V (m : Mov) (tt : Trk) (i : Nat) (s hv : Int) (kv dv : Value) (b off M : Nat) : Nat → Value
  | 0 => .pointer (some ⟨M, 0, none⟩)
  | 1 => .string (bs m.item)
  | 2 => kv
  | 3 => .int .i64 i
  | 4 => .pointer (some ⟨b, off + i * 3, none⟩)
  | 5 => .pointer (some ⟨b, off + i * 3 + 0, none⟩)
  | 6 => .string (bs tt.name)
  | 7 => .int .i64 s
  | 8 => .int .i64 s
  | 9 => kv
  | 10 => .int .i64 i
  | 11 => .pointer (some ⟨b, off + i * 3, none⟩)
  | 12 => .agg #[.string (bs tt.name), .int .i64 tt.load, .int .i64 tt.hours]
  | 13 => dv
  | 14 => .pointer (some ⟨M, 1, none⟩)
  | 15 => .int .i64 m.frm
  | 16 => .pointer (some ⟨M, 2, none⟩)
  | 17 => .int .i64 m.to
  | 18 => .int .i64 hv
  | 19 => .int .i64 (s + hv)
  | _ => .agg #[.string (bs m.item), .string (bs tt.name), .int .i64 s, .int .i64 (s + hv)]
def r26P (N : Nat) (m : Mov) (tt : Trk) (i0 : Nat) (s hv : Int) (kv dv : Value) (b off M : Nat) (i : Nat) (v : Value) (w : World) : Prop :=
  if i = 21 then ∃ b, v = .pointer (some ⟨b, 0, none⟩) ∧ N ≤ b ∧ b < w.heap.size ∧ X4 w b else v = r26V m tt i0 s hv kv dv b off M i
theorem r26P_is {N : Nat} {m : Mov} {tt : Trk} {i0 : Nat} {s hv : Int} {kv dv : Value} {b off M i : Nat} {v : Value} {w : World} (hi : i ≠ 21) : r26P N m tt i0 s hv kv dv b off M i v w ↔ v = r26V m tt i0 s hv kv dv b off M i := by unfold r26P; rw [if_neg hi]
theorem r26P_mono {N : Nat} {m : Mov} {tt : Trk} {i0 : Nat} {s hv : Int} {kv dv : Value} {b off M : Nat} (i : Nat) (v : Value) (w w' : World) (h : r26P N m tt i0 s hv kv dv b off M i v w) (hb : Below w.heap.size w w') : r26P N m tt i0 s hv kv dv b off M i v w' := by
  unfold r26P at *
  by_cases e : i = 21
  · rw [if_pos e] at h ⊢
    obtain ⟨b, e, h0, h1, h2⟩ := h
    exact ⟨b, e, h0, Nat.lt_of_lt_of_le h1 hb.size, h2.below hb h1⟩
  · rw [if_neg e] at h ⊢
    exact h
end Go.Proofs.YtpbmmdoodmbneaaDoor

/- Contract: Plan of the reference. -/
namespace Go.Proofs.YtpbmmdoodmbneaaDoor
open Go.RowKit

theorem own_partB {w : World} {B : Nat} {v : Value} {n : Nat} (h : w.ownsRow B 4 1 v n (madeCells #[Value.bool false] n).toList) : OwnB w B v n (fun _ => false) := by
  unfold OwnB
  rwa [blL_made] at h
set_option maxHeartbeats 8000000 in
set_option maxRecDepth 100000 in
theorem rPlan_any (mv v dv : Value) (ms : List Mov) (tr : List Trk) (d : List (List Int)) (w : World) (hm : SM w mv ms) (h : SK w v tr) (hd : SS w dv d) (hz : ∀ t ∈ tr, t.name.length ≤ maxLen) (hzm : ∀ m ∈ ms, m.item.length ≤ 1100000) :
    Calls Tryd.prog 16 #[mv, v, dv] w (RetXE w (planV ms tr d) (planE ms tr d)) := by
  have HCY := Lib.hid (rCheckYard_any v dv tr d w h hd hz)
  have HRM := Lib.hid (fun (W : World) (hb : Below w.heap.size w W) => rrightMoves_any mv dv ms d W (hm.keep hb) (hd.keep hb) hzm)
  have HM := Lib.hid hm
  have HK := Lib.hid h
  have HD := Lib.hid hd
  obtain ⟨ma, mc, rfl, _, _, _⟩ := hm
  obtain ⟨ka, kc, rfl, kn, km, _⟩ := h
  obtain ⟨da, dc, rfl, dn, dm, _⟩ := hd.open
  unfold maxLen at km
  clear hd hz hzm
  have HV : Hid (planV ms tr d = if inE ms tr d ≠ 0 then [] else (planO ms tr d).getD []) := rfl
  have HE : Hid (planE ms tr d = if inE ms tr d ≠ 0 then inE ms tr d else match planO ms tr d with | none => 25 | some _ => 0) := rfl
  have HOK : Hid (inE ms tr d = 0 → YardOK tr d ∧ MovesOK ms d.length) := fun h => inE_ok h
  have HIE : Hid (inE ms tr d = if yardE tr d ≠ 0 then yardE tr d else rmE ms d.length) := rfl
  generalize inE ms tr d = y at *
  by_cases hy1 : yardE tr d = 0
  rotate_left
  · have HR : Hid (planE ms tr d = yardE tr d ∧ planV ms tr d = []) := ⟨by rw [HE.out, HIE.out, if_pos hy1, if_pos hy1], by rw [HV.out, HIE.out, if_pos hy1, if_pos hy1]⟩
    have hyb : (yardE tr d != 0) = true := by simpa using hy1
    clear HE HV hy1 HOK HIE
    generalize yardE tr d = ye at *
    go_enter Tryd.func16, Tryd.ntmps16
    go_wp2_with fail
    refine HCY.out.mono ?_
    rintro e w1 ⟨rfl, hb1⟩
    go_wp2_with fail
    go_ret2
    exact retXE rfl HR.out.1.symm (SX_nil _) HR.out.2.symm hb1
  have HYR : Hid (y = rmE ms d.length) := by show _ = _; rw [HIE.out, if_neg (by simpa using hy1)]
  rw [hy1] at HCY
  clear HIE hy1
  by_cases hy : y = 0
  rotate_left
  · have HR : Hid (planE ms tr d = y ∧ planV ms tr d = []) := ⟨by rw [HE.out, if_pos hy], by rw [HV.out, if_pos hy]⟩
    have hyb : (y != 0) = true := by simpa using hy
    rw [← HYR.out] at HRM
    clear HE HV hy HOK HYR
    go_enter Tryd.func16, Tryd.ntmps16
    go_wp2_with fail
    refine HCY.out.mono ?_
    rintro e w1 ⟨rfl, hb1⟩
    have HB1 := Lib.hid hb1
    clear hb1
    go_wp2_with fail
    refine (HRM.out _ HB1.out).mono ?_
    rintro e w2 ⟨rfl, hb2⟩
    have HB2 := Lib.hid (ext_trans HB1.out hb2)
    clear hb2
    go_wp2_with fail
    go_ret2
    exact retXE rfl HR.out.1.symm (SX_nil _) HR.out.2.symm HB2.out
  subst hy
  rw [← HYR.out] at HRM
  obtain ⟨hY, hMO⟩ := HOK.out rfl
  have HYD := Lib.hid hY
  have HMO := Lib.hid hMO
  have hntr := hY.n2
  have hnms := hMO.ln
  have HV2 : Hid (planV ms tr d = (planO ms tr d).getD []) := HV.out
  have HE2 : Hid (planE ms tr d = match planO ms tr d with | none => 25 | some _ => 0) := HE.out
  have HPO : Hid (planO ms tr d = planF tr d ((srtM ms).drop 0) (fun _ => none) []) := rfl
  have HLM : Hid ((srtM ms).length = ms.length) := srtM_len ms
  clear HV HE HOK hY hMO HYR
  obtain ⟨iI, hi, hz0, hz1, hz2⟩ := info_parts Tryd_infoInt
  have HI := Lib.hid hi; have HZ0 := Lib.hid hz0; have HZ1 := Lib.hid hz1; have HZ2 := Lib.hid hz2
  clear hi hz0 hz1 hz2
  obtain ⟨iB, hi, hz0, hz1, hz2⟩ := info_parts Tryd_infoBool
  have HBI := Lib.hid hi; have HBZ0 := Lib.hid hz0; have HBZ1 := Lib.hid hz1; have HBZ2 := Lib.hid hz2
  clear hi hz0 hz1 hz2
  go_enter Tryd.func16, Tryd.ntmps16
  go_wp2_with fail
  refine HCY.out.mono ?_
  rintro e w1 ⟨rfl, hb1⟩
  have HB1 := Lib.hid hb1
  clear hb1 HCY
  go_wp2_with fail
  refine (HRM.out _ HB1.out).mono ?_
  rintro e w2 ⟨rfl, hb2⟩
  have HB2 := Lib.hid (ext_trans HB1.out hb2)
  clear hb2 HRM HB1
  have hs2 := HB2.out.size
  go_wp2_with (at_make; refine wpList_make_full _ rfl _ _ 62 rfl w.heap.size 4 iB (.bool false) 1 Tryd.underlying62 HBI.out HBZ0.out HBZ1.out _ _ _ _ ms.length rfl rfl rfl rfl ?c1 ?c2 hs2 ?_)
  case c1 => rw [HBZ2.out]; omega
  case c2 => unfold maxLen; omega
  intro w3 hown3 hgrow3
  have HT3 := Lib.hid (own_partB hown3)
  have HB3 := Lib.hid (ext_trans HB2.out (grownBy_below hgrow3))
  have hlt3 : w2.heap.size < w3.heap.size := by have := hown3.lt w2.heap.size rfl; omega
  obtain ⟨g1, hg1⟩ : ∃ g, g = w2.heap.size := ⟨_, rfl⟩
  rw [← hg1] at HT3 hlt3 hs2 ⊢
  clear hown3 hgrow3 HB2 hg1
  have hs3 := HB3.out.size
  go_wp2_with (at_make; refine wpList_make_full _ rfl _ _ 50 rfl w.heap.size 3 iI (.int .i64 0) 1 Tryd.underlying50 HI.out HZ0.out HZ1.out _ _ _ _ tr.length rfl rfl rfl rfl ?c1 ?c2 hs3 ?_)
  case c1 => rw [HZ2.out]; omega
  case c2 => unfold maxLen; omega
  intro w4 hown4 hgrow4
  have HP4 := Lib.hid (own_part hown4)
  have hb34 := grownBy_below hgrow4
  have HT4 : Hid (OwnB w4 w.heap.size (.slice (some ⟨g1, 0, none⟩) ms.length ms.length) ms.length fun _ => false) := owns_below HT3.out hb34
  have HB4 := Lib.hid (ext_trans HB3.out hb34)
  have hlt4 : w3.heap.size < w4.heap.size := by have := hown4.lt w3.heap.size rfl; omega
  obtain ⟨g2, hg2⟩ : ∃ g, g = w3.heap.size := ⟨_, rfl⟩
  rw [← hg2] at HP4 hlt3 hlt4 hs3 ⊢
  clear hown4 hgrow4 HB3 HT3 hg2 hb34
  have hs4 := HB4.out.size
  go_wp2_with (at_make; refine wpList_make_full _ rfl _ _ 50 rfl w.heap.size 3 iI (.int .i64 0) 1 Tryd.underlying50 HI.out HZ0.out HZ1.out _ _ _ _ tr.length rfl rfl rfl rfl ?c1 ?c2 hs4 ?_)
  case c1 => rw [HZ2.out]; omega
  case c2 => unfold maxLen; omega
  intro w5 hown5 hgrow5
  have HE5 := Lib.hid (own_part hown5)
  have hb45 := grownBy_below hgrow5
  have HT5 : Hid (OwnB w5 w.heap.size (.slice (some ⟨g1, 0, none⟩) ms.length ms.length) ms.length fun _ => false) := owns_below HT4.out hb45
  have HP5 : Hid (OwnI w5 w.heap.size (.slice (some ⟨g2, 0, none⟩) tr.length tr.length) (List.replicate tr.length 0)) := owns_below HP4.out hb45
  have HB5 := Lib.hid (ext_trans HB4.out hb45)
  have hlt5 : w4.heap.size < w5.heap.size := by have := hown5.lt w4.heap.size rfl; omega
  obtain ⟨g3, hg3⟩ : ∃ g, g = w4.heap.size := ⟨_, rfl⟩
  rw [← hg3] at HE5 hlt4 hlt5 hs4 ⊢
  clear hown5 hgrow5 HB4 HT4 HP4 hg3 hb45
  have hs5 := HB5.out.size
  go_wp2_with (at_make; refine wpList_make_full _ rfl _ _ 62 rfl w.heap.size 4 iB (.bool false) 1 Tryd.underlying62 HBI.out HBZ0.out HBZ1.out _ _ _ _ tr.length rfl rfl rfl rfl ?c1 ?c2 hs5 ?_)
  case c1 => rw [HBZ2.out]; omega
  case c2 => unfold maxLen; omega
  intro w6 hown6 hgrow6
  have HU6 := Lib.hid (own_partB hown6)
  have hb56 := grownBy_below hgrow6
  have hlt6 : w5.heap.size < w6.heap.size := by have := hown6.lt w5.heap.size rfl; omega
  obtain ⟨g4, hg4⟩ : ∃ g, g = w5.heap.size := ⟨_, rfl⟩
  rw [← hg4] at HU6 hlt5 hlt6 hs5 ⊢
  obtain ⟨B, hB⟩ : ∃ B, B = w6.heap.size := ⟨_, rfl⟩
  have HR0 : Hid (RP w B g1 g2 g3 g4 ms.length tr.length w6 (fun _ => false) (fun _ => false) (List.replicate tr.length 0) (List.replicate tr.length 0)) :=
    ⟨⟨hs2, hlt3, hlt4, hlt5, by omega⟩, by omega, ext_trans HB5.out hb56, owns_below HT5.out hb56, owns_below HP5.out hb56, owns_below HE5.out hb56, HU6.out⟩
  clear hown6 hgrow6 HT5 HP5 HE5 HU6 HB5 hg4 hb56 HI HZ0 HZ1 HZ2 HBI HBZ0 HBZ1 HBZ2 hs2 hs3 hs4 hs5
  have hg1B : g1 < B := by omega
  have hg2B : g2 < B := by omega
  have hg3B : g3 < B := by omega
  have hg4B : g4 < B := by omega
  clear hB hlt3 hlt4 hlt5 hlt6
  go_wp2_with fail
  go_loopw [10, 15] (fun lv i wr => ∃ (k : Nat) (acc : List Trp) (tk us : Nat → Bool) (pl en : List Int), k ≤ ms.length ∧ i = .int .i64 k ∧ Hid (RP w B g1 g2 g3 g4 ms.length tr.length wr tk us pl en) ∧ Hid (OwnX wr B lv acc) ∧
    Hid (acc.length = k ∧ TkOK ms k tk ∧ StOK us pl en tr.length d.length k) ∧ Hid (planO ms tr d = planF tr d ((srtM ms).drop k) (stA us pl en) acc)) (fun _ i _ => ms.length - (intOf i).toNat)
  case atStart => exact ⟨0, [], _, _, _, _, Nat.zero_le _, rfl, HR0, OwnX_nil _ _, ⟨rfl, tkOK_start _, stOK_start _ _⟩, by rw [stA_start]; exact HPO.out⟩
  case round =>
    obtain ⟨k, acc, tk, us, pl, en, hk, rfl, hR, hx, hfacts, hpl⟩ := hrel
    clear HR0 HPO
    obtain ⟨la, lc, rfl, hlc⟩ := hx.out.form
    by_cases hlt : k < ms.length
    · obtain ⟨j, hj1, hj2, hj3, hj4⟩ := next_om HMO.out.nd hlt hfacts.out.2.1
      have i1 : (k : Int) < (ms.length : Int) := by omega
      have HJ4 := Lib.hid hj4
      have HJ1 := Lib.hid hj1
      have HJ3 := Lib.hid hj3
      clear hj4 hj1 hj3
      go_wp2_with fail
      refine (rnext_any _ _ ms tk wr (HM.out.keep hR.out.hb) (hR.out.t.sl (by unfold maxLen; omega)) hnms).mono ?_
      rintro e w7 ⟨rfl, hb7⟩
      have HR7 := Lib.hid (hR.out.below hb7)
      have HX7 := Lib.hid (hx.out.below hb7)
      rw [HJ1.out, show nxI (some j) = (j : Int) from rfl]
      clear hb7 hR hx
      have ct := HR7.out.t.cellH hj2
      have ft := HR7.out.t.fzH j
      obtain ⟨mb, mo, hma, hcm⟩ := (HM.out.keep HR7.out.hb).at hj2
      subst hma
      have HMB : Hid (mb < w.heap.size) := by
        obtain ⟨mb', mo', e, hcm'⟩ := HM.out.at hj2
        simp only [Option.some.injEq, Addr.mk.injEq] at e
        obtain ⟨rfl, _, _⟩ := e
        exact World.block_lt_of_cell? w _ hcm'.c0
      have hne : mb ≠ g1 := by have := HR7.out.od.1; have := HMB.out; omega
      have hrg := HMO.out.rg _ (mvi_mem hj2)
      have HPA := Lib.hid (hpl.out.trans (planF_at (by rw [HLM.out]; exact hlt)))
      have HMJ := Lib.hid HJ3.out.symm
      obtain ⟨m, hm⟩ : ∃ m, mvi ms j = m := ⟨_, rfl⟩
      rw [← HJ3.out, hm] at HPA
      rw [hm] at hcm hrg HJ3 HMJ
      obtain ⟨c0, c1, c2, c3, c4⟩ := hcm
      have i2 : (j : Int) < (ms.length : Int) := by omega
      clear hm hpl
      go_wp2_with fail
      obtain ⟨W1, hW1⟩ : ∃ W1, W1 = w7.setCell ⟨g1, j, none⟩ (.bool true) := ⟨_, rfl⟩
      rw [← hW1]
      have HRW1 : Hid (RP w B g1 g2 g3 g4 ms.length tr.length W1 (fun i => if i = j then true else tk i) us pl en) := by show RP _ _ _ _ _ _ _ _ _ _ _ _ _; rw [hW1]; exact HR7.out.setT j
      have HXW1 : Hid (OwnX W1 B (.slice la acc.length lc) acc) := by
        show OwnX _ _ _ _
        rw [hW1]
        exact HX7.out.kept (grownBy_set _ _ _ _) (.inr fun e => by have := HX7.out.lt g1 e; omega)
      obtain ⟨M, hM7⟩ : ∃ M, M = w7.heap.size := ⟨_, rfl⟩
      have hM : M = W1.heap.size := by rw [hW1, hM7]; simp
      clear hW1 ct ft HR7 HX7 c0 c1 c2 c3 c4
      obtain ⟨W2, hW2⟩ : ∃ W2, W2 = (W1.alloc (.cells #[.string (bs m.item), .int .i64 m.frm, .int .i64 m.to, .int .i64 m.ready, .int .i64 m.mass] 46)).alloc (.cells #[.string ⟨#[]⟩, .string ⟨#[]⟩, .int .i64 0, .int .i64 0] 42) := ⟨_, rfl⟩
      rw [← hW2]
      have hbW2 : Below W1.heap.size W1 W2 := by rw [hW2]; exact ((Below.refl _ _).alloc (Nat.le_refl _) _).alloc (by simp) _
      have HMW : Hid (MAt W2 M 0 m) := by
        show MAt _ _ _ _
        rw [hW2, hM]
        exact ⟨by simp, by simp, by simp, by simp, by simp⟩
      have HX4 : Hid (X4 W2 (M + 1)) := by
        show X4 _ _
        rw [hW2, hM]
        have := X4_new (W1.alloc (.cells #[.string (bs m.item), .int .i64 m.frm, .int .i64 m.to, .int .i64 m.ready, .int .i64 m.mass] 46))
        simpa using this
      have hW2s : W2.heap.size = M + 2 := by rw [hW2, hM]; simp
      have hMB : B ≤ M := by rw [hM]; exact HRW1.out.bs
      have HR2 := Lib.hid (HRW1.out.below hbW2)
      have HX2 := Lib.hid (HXW1.out.below hbW2)
      have hxlt : ∀ N, M ≤ N → (Value.slice la acc.length lc).ownBlock = none ∨ (Value.slice la acc.length lc).ownBlock ≠ some N := fun N hN => HXW1.out.blk_lt (by rw [← hM]; exact hN)
      have HXLT := Lib.hid hxlt
      clear hW2 hbW2 hxlt HRW1 HXW1
      rw [← hM7]
      clear hM hM7
      go_loopw [18, 20] (fun at_ i w8 => ∃ i' : Nat, i' ≤ tr.length ∧ i = .int .i64 i' ∧ Hid (W2.grownBy w8 (some (M + 1))) ∧ Hid (AtR w8 (M + 1) at_ (bestF tr d (stA us pl en) m i'))) (fun _ i _ => tr.length - (intOf i).toNat)
      case atStart => exact ⟨0, Nat.zero_le _, rfl, World.grownBy.refl _ _, HX4.out, rfl⟩
      case round =>
        obtain ⟨w8, rfl⟩ : ∃ x : World, x = wr := ⟨_, rfl⟩
        obtain ⟨i, hi, rfl, hg8, hat⟩ := hrel
        have HR8 : Hid (RP w B g1 g2 g3 g4 ms.length tr.length w8 (fun i => if i = j then true else tk i) us pl en) := HR2.out.grown hg8.out (fun b hb => by have := Option.some.inj hb; omega)
        have hs8 := hg8.out.size
        have hM8 : M < w8.heap.size := by omega
        by_cases hlt2 : i < tr.length
        · obtain ⟨b, off, ha, hc⟩ := (HK.out.keep HR8.out.hb).at hlt2
          subst ha
          have hM5 := HMW.out.grown hg8.out (by simp)
          have m0 : w8.cell? ⟨M, 0, none⟩ = some (.string (bs m.item)) := hM5.c0
          have m1 : w8.cell? ⟨M, 1, none⟩ = some (.int .i64 m.frm) := hM5.c1
          have m2 : w8.cell? ⟨M, 2, none⟩ = some (.int .i64 m.to) := hM5.c2
          have m3 : w8.cell? ⟨M, 3, none⟩ = some (.int .i64 m.ready) := hM5.c3
          have m4 : w8.cell? ⟨M, 4, none⟩ = some (.int .i64 m.mass) := hM5.c4
          clear hM5
          have HKT := Lib.hid hc
          have t1 := hc.c1
          clear hc
          have hrt := HYD.out.hr _ (tki_mem hlt2)
          have hst := startA HYD.out hfacts.out.2.2 (m := m) (by omega) hlt2
          have hHR := hours_range HYD.out (tki_mem hlt2) m.frm m.to
          have HSK := Lib.hid (fun h => bestF_skip (d := d) (st := stA us pl en) (m := m) (k := i) (tr := tr) h)
          have HFI := Lib.hid (fun h hb => bestF_first (d := d) (st := stA us pl en) (m := m) (k := i) (tr := tr) h hb)
          have HLE := Lib.hid (fun (j : Nat) (y : Trp) h hb hl => bestF_less (d := d) (st := stA us pl en) (m := m) (k := i) (tr := tr) (j := j) (y := y) h hb hl)
          have HKE := Lib.hid (fun (j : Nat) (y : Trp) h hb hl => bestF_keep (d := d) (st := stA us pl en) (m := m) (k := i) (tr := tr) (j := j) (y := y) h hb hl)
          have j1 : (i : Int) < (tr.length : Int) := by omega
          by_cases hld : (tki tr i).load < m.mass
          · have HN := Lib.hid (HSK.out hld)
            generalize tki tr i = tt at *
            go_wp2_with fail
            go_quiet (fail)
            go_wp2_with fail
            go_roundw
            case rel => exact ⟨i + 1, by omega, by go_num, grownBy_trans hg8.out (grownBy_of_below (below_drewN' (Below.refl _ _) _) _), by rw [HN.out]; exact hat.out.below (by omega) (below_drewN' (Below.refl _ _) _)⟩
            case measure => simp [intOf]; omega
          · have cU : w8.cell? ⟨g4, i, none⟩ = some (.bool (us i)) := HR8.out.u.cellH hlt2
            obtain ⟨s, hs⟩ : ∃ s, startV (tki tr i) d (stA us pl en i) m = s := ⟨_, rfl⟩
            obtain ⟨hq, hhv⟩ : ∃ hq, hoursV (tki tr i) d m.frm m.to = hq := ⟨_, rfl⟩
            rw [hs] at hst
            rw [hhv] at hHR
            have HS := Lib.hid hs
            have HHV := Lib.hid hhv
            clear hs hhv
            have hbnd : (k : Int) ≤ 128 := by omega
            obtain ⟨tt, htt⟩ : ∃ tt, tki tr i = tt := ⟨_, rfl⟩
            rw [htt] at HKT t1 hrt HSK HFI HLE HKE hld HS HHV
            clear htt
            go_wp2_with fail
            go_quiet (fail)
            go_upto_if 83 with (fail)
            obtain ⟨w9, hw9⟩ : ∃ w9, w9 = w8.drewN nq := ⟨_, rfl⟩
            rw [← hw9]
            have hb89 : Below w8.heap.size w8 w9 := by rw [hw9]; exact below_drewN' (Below.refl _ _) _
            have hs89 : w9.heap.size = w8.heap.size := by rw [hw9]; rfl
            clear hw9
            go_cut [21] (fun s21 wx => s21 = .int .i64 s ∧ Below w9.heap.size w9 wx)
            case first =>
              cases hus : us i
              · have HS0 : Hid (m.ready = s) := by
                  show _ = _
                  rw [← HS.out]; unfold startV stA; rw [hus]; rfl
                go_wp2_with fail
                go_meet
                exact ⟨by rw [HS0.out], Below.refl _ _⟩
              · have cE : w9.cell? ⟨g3, i, none⟩ = some (.int .i64 (gi en i)) := cell_keep hb89 (HR8.out.e.cellH (by rw [hfacts.out.2.2.2.1]; exact hlt2))
                have cP : w9.cell? ⟨g2, i, none⟩ = some (.int .i64 (gi pl i)) := cell_keep hb89 (HR8.out.p.cellH (by rw [hfacts.out.2.2.1]; exact hlt2))
                have hso := hfacts.out.2.2.2.2 i hlt2 hus
                obtain ⟨pto, hpto⟩ : ∃ q : Nat, gi pl i = q := ⟨(gi pl i).toNat, by omega⟩
                obtain ⟨mf, hmf⟩ : ∃ q : Nat, m.frm = q := ⟨m.frm.toNat, by omega⟩
                have HS1 : s = max m.ready (gi en i + emptyV tt d pto mf) := by
                  rw [← HS.out]; unfold startV stA; rw [hus, if_pos rfl, hpto, hmf]
                rw [hpto] at cP
                have hhr : 1 ≤ tt.hours ∧ tt.hours ≤ 100 := by omega
                have hpd : pto < d.length := by omega
                have hmd : mf < (ri d pto).length := by rw [HYD.out.sq _ (ri_mem hpd)]; omega
                have hdr := HYD.out.dist pto mf
                have hme : emptyV tt d pto mf ≤ 500001 ∧ 0 ≤ emptyV tt d pto mf := by
                  unfold emptyV
                  rw [Int.toNat_natCast, Int.toNat_natCast]
                  generalize gi (ri d pto) mf = z at *
                  have h4 : tt.hours * z ≤ 100 * 10000 := Int.mul_le_mul hhr.2 hdr.2 hdr.1 (by omega)
                  have h5 : 0 ≤ tt.hours * z := Int.mul_nonneg (by omega) hdr.1
                  omega
                have HMF := Lib.hid hmf
                have HHS := Lib.hid hus
                clear hmf hpto hus
                go_wp2_with fail
                refine wp_name fun a0 ha0 => ?_
                have z21 : a0.eval (.tmp 21) = .int .i64 m.ready := by rw [ha0]; rfl
                have z13 : a0.eval (.tmp 13) = .slice (some ⟨g3, 0, none⟩) tr.length tr.length := by rw [ha0]; rfl
                have z12 : a0.eval (.tmp 12) = .slice (some ⟨g2, 0, none⟩) tr.length tr.length := by rw [ha0]; rfl
                have z20 : a0.eval (.tmp 20) = .int .i64 i := by rw [ha0]; rfl
                have z1 : a0.eval (.tmp 1) = .slice (some ⟨b, off, none⟩) tr.length kc := by rw [ha0]; rfl
                have z2 : a0.eval (.tmp 2) = .slice da d.length dc := by rw [ha0]; rfl
                have z17 : a0.eval (.tmp 17) = .pointer (some ⟨M, 0, none⟩) := by rw [ha0]; rfl
                refine wp_region_ipf r25d (fun i' v _ => v = r25V m tt i pto mf (gi en i) (emptyV tt d pto mf) s g3 g2 tr.length (.slice (some ⟨b, off, none⟩) tr.length kc) (.slice da d.length dc) b off M i') (fun w' => Below w9.heap.size w9 w') mixed (by kernel_rfl) (by rw [ha0]; rfl) (by kernel_rfl) (Below.refl _ _).drew (fun i v w w' h _ => h) ?_ ?_
                · rintro i' op a w10 hop hdep hsm hb hfr K hK
                  have hi' : i' < 20 := (Array.getElem?_eq_some_iff.1 hop).1
                  have q13 := (hsm.eval (m := 13) (by decide)).trans z13
                  have q12 := (hsm.eval (m := 12) (by decide)).trans z12
                  have q20 := (hsm.eval (m := 20) (by decide)).trans z20
                  have q1 := (hsm.eval (m := 1) (by decide)).trans z1
                  have q2 := (hsm.eval (m := 2) (by decide)).trans z2
                  have q17 := (hsm.eval (m := 17) (by decide)).trans z17
                  have ke := cell_keep hb cE
                  have kp := cell_keep hb cP
                  have kt := (HKT.out.keep hb89).keep hb
                  have kf : w10.cell? ⟨M, 1, none⟩ = some (.int .i64 mf) := by rw [← HMF.out]; exact cell_keep hb (cell_keep hb89 m1)
                  have hbw : Below w.heap.size w w10 := ext_trans (ext_trans HR8.out.hb hb89) hb
                  have dv : ∀ e ∈ op.after, Region.binds .any e = true → a.eval (.tmp (r25d e.on)) = r25V m tt i pto mf (gi en i) (emptyV tt d pto mf) s g3 g2 tr.length (.slice (some ⟨b, off, none⟩) tr.length kc) (.slice da d.length dc) b off M e.on := fun e he hbi => hdep e he hbi
                  have hn : ∀ v, v = r25V m tt i pto mf (gi en i) (emptyV tt d pto mf) s g3 g2 tr.length (.slice (some ⟨b, off, none⟩) tr.length kc) (.slice da d.length dc) b off M i' → K (a.put op.dst v) w10 := fun v hv => hK _ _ hb (Below.refl _ _) hv
                  have hcase : i' = 0 ∨ i' = 1 ∨ i' = 2 ∨ i' = 3 ∨ i' = 4 ∨ i' = 5 ∨ i' = 6 ∨ i' = 7 ∨ i' = 8 ∨ i' = 9 ∨ i' = 10 ∨ i' = 11 ∨ i' = 12 ∨ i' = 13 ∨ i' = 14 ∨ i' = 15 ∨ i' = 16 ∨ i' = 17 ∨ i' = 18 ∨ i' = 19 := by omega
                  rcases hcase with h | h | h | h | h | h | h | h | h | h | h | h | h | h | h | h | h | h | h | h <;> subst h <;> have ho' := Option.some.inj hop <;> subst ho'
                  · exact vl_move (.tmp 21) rfl _ ((hfr 19 _ ⟨0, .phase⟩ rfl (by simp) rfl rfl).trans z21) (hn _ rfl)
                  · exact vl_move (.tmp 13) rfl _ q13 (hn _ rfl)
                  · exact vl_move (.tmp 20) rfl _ q20 (hn _ rfl)
                  · exact ix_ints (.tmp 85) (.tmp 86) g3 0 tr.length tr.length i rfl (dv ⟨1, .data⟩ (by simp) rfl) (dv ⟨2, .data⟩ (by simp) rfl) hlt2 (Nat.le_refl _) (hn _ rfl)
                  · exact vl_load 3 agg_int0 (.tmp 87) rfl _ _ (dv ⟨3, .data⟩ (by simp) rfl) (by rw [Nat.zero_add]; exact ke) (hn _ rfl)
                  · exact vl_move (.tmp 1) rfl _ q1 (hn _ rfl)
                  · exact vl_move (.tmp 20) rfl _ q20 (hn _ rfl)
                  · exact ix_trucks (.tmp 89) (.tmp 90) b off tr.length kc i rfl (dv ⟨5, .data⟩ (by simp) rfl) (dv ⟨6, .data⟩ (by simp) rfl) hlt2 kn (hn _ rfl)
                  · exact ld_truck (.tmp 91) tt b (off + i * 3) rfl (dv ⟨7, .data⟩ (by simp) rfl) kt (hn _ rfl)
                  · exact vl_move (.tmp 2) rfl _ q2 (hn _ rfl)
                  · exact vl_move (.tmp 12) rfl _ q12 (hn _ rfl)
                  · exact vl_move (.tmp 20) rfl _ q20 (hn _ rfl)
                  · exact ix_ints (.tmp 94) (.tmp 95) g2 0 tr.length tr.length i rfl (dv ⟨10, .data⟩ (by simp) rfl) (dv ⟨11, .data⟩ (by simp) rfl) hlt2 (Nat.le_refl _) (hn _ rfl)
                  · exact vl_load 3 agg_int0 (.tmp 96) rfl _ _ (dv ⟨12, .data⟩ (by simp) rfl) (by rw [Nat.zero_add]; exact kp) (hn _ rfl)
                  · exact fa_move (.tmp 17) 1 (by omega) rfl M 0 q17 (hn _ (by rw [Nat.zero_add]; rfl))
                  · exact vl_load 3 agg_int0 (.tmp 98) rfl _ _ (dv ⟨14, .data⟩ (by simp) rfl) kf (hn _ rfl)
                  · exact vl_call4 35 _ _ _ _ (.tmp 92) (.tmp 93) (.tmp 97) (.tmp 99) rfl enter_rempty _ _ _ _ (dv ⟨8, .data⟩ (by simp) rfl) (dv ⟨9, .data⟩ (by simp) rfl) (dv ⟨13, .data⟩ (by simp) rfl) (dv ⟨15, .data⟩ (by simp) rfl) ((rempty_any tt _ d pto mf _ (HD.out.keep hbw) hhr hpd hmd hdr).mono fun e w11 ⟨he, hb8⟩ => ⟨_, he, hK _ _ (ext_trans hb hb8) hb8 rfl⟩)
                  · exact wp_add1 (.tmp 88) (.tmp 100) rfl _ _ (dv ⟨4, .data⟩ (by simp) rfl) (dv ⟨16, .data⟩ (by simp) rfl) (by omega) (hn _ rfl)
                  · exact mx_two (.tmp 84) (.tmp 101) rfl _ _ (dv ⟨0, .data⟩ (by simp) rfl) (dv ⟨17, .data⟩ (by simp) rfl) (hn _ (congrArg (Value.int .i64) HS1.symm))
                  · exact vl_assign (.tmp 102) rfl _ (dv ⟨18, .data⟩ (by simp) rfl) (hn _ rfl)
                · rintro a w10 hsm hb hv
                  have v21 : a.eval (.tmp 21) = .int .i64 s := hv 19 (by decide)
                  have hsm' : Sm [84, 85, 86, 87, 88, 89, 90, 91, 92, 93, 94, 95, 96, 97, 98, 99, 100, 101, 102, 21] a0 a := hsm
                  have HA := hsm'.lit
                  simp only [List.foldl] at HA
                  rw [v21] at HA
                  generalize a.eval (.tmp 84) = t84 at HA
                  generalize a.eval (.tmp 85) = t85 at HA
                  generalize a.eval (.tmp 86) = t86 at HA
                  generalize a.eval (.tmp 87) = t87 at HA
                  generalize a.eval (.tmp 88) = t88 at HA
                  generalize a.eval (.tmp 89) = t89 at HA
                  generalize a.eval (.tmp 90) = t90 at HA
                  generalize a.eval (.tmp 91) = t91 at HA
                  generalize a.eval (.tmp 92) = t92 at HA
                  generalize a.eval (.tmp 93) = t93 at HA
                  generalize a.eval (.tmp 94) = t94 at HA
                  generalize a.eval (.tmp 95) = t95 at HA
                  generalize a.eval (.tmp 96) = t96 at HA
                  generalize a.eval (.tmp 97) = t97 at HA
                  generalize a.eval (.tmp 98) = t98 at HA
                  generalize a.eval (.tmp 99) = t99 at HA
                  generalize a.eval (.tmp 100) = t100 at HA
                  generalize a.eval (.tmp 101) = t101 at HA
                  generalize a.eval (.tmp 102) = t102 at HA
                  rw [HA, ha0]
                  simp only [Act.put, List.setIfInBounds_toArray, List.set_cons_zero, List.set_cons_succ]
                  clear HA hsm hsm' hv v21 ha0 z21 z13 z12 z20 z1 z2 z17
                  go_wp2_with fail
                  go_meet
                  exact ⟨rfl, hb⟩
            case rest =>
              obtain ⟨rfl, hb9⟩ := hcut
              have hb8c : Below w8.heap.size w8 wc := ext_trans hb89 hb9
              have e0 := cell_keep hb8c m0
              have e1 := cell_keep hb8c m1
              have e2 := cell_keep hb8c m2
              have hKc := HKT.out.keep hb8c
              have hBc : Below w.heap.size w wc := ext_trans HR8.out.hb hb8c
              have hs9c := hb9.size
              go_wp2_with fail
              refine wp_name fun a0 ha0 => ?_
              have z21 : a0.eval (.tmp 21) = .int .i64 s := by rw [ha0]; rfl
              have z20 : a0.eval (.tmp 20) = .int .i64 i := by rw [ha0]; rfl
              have z1 : a0.eval (.tmp 1) = .slice (some ⟨b, off, none⟩) tr.length kc := by rw [ha0]; rfl
              have z2 : a0.eval (.tmp 2) = .slice da d.length dc := by rw [ha0]; rfl
              have z17 : a0.eval (.tmp 17) = .pointer (some ⟨M, 0, none⟩) := by rw [ha0]; rfl
              refine wp_region_ips 22 r26d (r26P wc.heap.size m tt i s hq (.slice (some ⟨b, off, none⟩) tr.length kc) (.slice da d.length dc) b off M) (fun w' => Below wc.heap.size wc w') (fun a w' => Sm (slots r26d 22) a0 a ∧ ∃ b, a.eval (.tmp 22) = .pointer (some ⟨b, 0, none⟩) ∧ wc.heap.size ≤ b ∧ b < w'.heap.size ∧ Below wc.heap.size wc w' ∧ XAt w' b 0 ⟨m.item, tt.name, s, s + hq⟩ ∧ X4 w' b) (by kernel_rfl) mixed (by kernel_rfl) (by rw [ha0]; rfl) (by kernel_rfl) (by kernel_rfl) (Below.refl _ _).drew r26P_mono ?_ ?_ ?_
              · rintro i' op a w10 hi' hop hdep hsm hb K hK
                have q21 := (hsm.eval (m := 21) (by decide)).trans z21
                have q20 := (hsm.eval (m := 20) (by decide)).trans z20
                have q1 := (hsm.eval (m := 1) (by decide)).trans z1
                have q2 := (hsm.eval (m := 2) (by decide)).trans z2
                have q17 := (hsm.eval (m := 17) (by decide)).trans z17
                have k0 := cell_keep hb e0
                have k1 := cell_keep hb e1
                have k2 := cell_keep hb e2
                have kt := hKc.keep hb
                have hbw : Below w.heap.size w w10 := ext_trans hBc hb
                have dv : ∀ e ∈ op.after, Region.binds .any e = true → e.on ≠ 21 → a.eval (.tmp (r26d e.on)) = r26V m tt i s hq (.slice (some ⟨b, off, none⟩) tr.length kc) (.slice da d.length dc) b off M e.on := fun e he hbi hne => (r26P_is hne).1 (hdep e he hbi)
                have hn : i' ≠ 21 → ∀ v, v = r26V m tt i s hq (.slice (some ⟨b, off, none⟩) tr.length kc) (.slice da d.length dc) b off M i' → K (a.put op.dst v) w10 := fun hne v hv => hK _ _ hb (Below.refl _ _) ((r26P_is hne).2 hv)
                have hcase : i' = 0 ∨ i' = 1 ∨ i' = 2 ∨ i' = 3 ∨ i' = 4 ∨ i' = 5 ∨ i' = 6 ∨ i' = 7 ∨ i' = 8 ∨ i' = 9 ∨ i' = 10 ∨ i' = 11 ∨ i' = 12 ∨ i' = 13 ∨ i' = 14 ∨ i' = 15 ∨ i' = 16 ∨ i' = 17 ∨ i' = 18 ∨ i' = 19 ∨ i' = 20 ∨ i' = 21 := by omega
                rcases hcase with h | h | h | h | h | h | h | h | h | h | h | h | h | h | h | h | h | h | h | h | h | h <;> subst h <;> have ho' := Option.some.inj hop <;> subst ho'
                · exact fa_move (.tmp 17) 0 (by omega) rfl M 0 q17 (hn (by decide) _ rfl)
                · exact vl_load 9 agg_string (.tmp 103) rfl _ _ (dv ⟨0, .data⟩ (by simp) rfl (by decide)) k0 (hn (by decide) _ rfl)
                · exact vl_move (.tmp 1) rfl _ q1 (hn (by decide) _ rfl)
                · exact vl_move (.tmp 20) rfl _ q20 (hn (by decide) _ rfl)
                · exact ix_trucks (.tmp 105) (.tmp 106) b off tr.length kc i rfl (dv ⟨2, .data⟩ (by simp) rfl (by decide)) (dv ⟨3, .data⟩ (by simp) rfl (by decide)) hlt2 kn (hn (by decide) _ rfl)
                · exact fa_truck (.tmp 107) 0 (by omega) rfl b (off + i * 3) (dv ⟨4, .data⟩ (by simp) rfl (by decide)) (hn (by decide) _ rfl)
                · exact vl_load 9 agg_string (.tmp 108) rfl _ _ (dv ⟨5, .data⟩ (by simp) rfl (by decide)) kt.c0 (hn (by decide) _ rfl)
                · exact vl_move (.tmp 21) rfl _ q21 (hn (by decide) _ rfl)
                · exact vl_move (.tmp 21) rfl _ q21 (hn (by decide) _ rfl)
                · exact vl_move (.tmp 1) rfl _ q1 (hn (by decide) _ rfl)
                · exact vl_move (.tmp 20) rfl _ q20 (hn (by decide) _ rfl)
                · exact ix_trucks (.tmp 112) (.tmp 113) b off tr.length kc i rfl (dv ⟨9, .data⟩ (by simp) rfl (by decide)) (dv ⟨10, .data⟩ (by simp) rfl (by decide)) hlt2 kn (hn (by decide) _ rfl)
                · exact ld_truck (.tmp 114) tt b (off + i * 3) rfl (dv ⟨11, .data⟩ (by simp) rfl (by decide)) kt (hn (by decide) _ rfl)
                · exact vl_move (.tmp 2) rfl _ q2 (hn (by decide) _ rfl)
                · exact fa_move (.tmp 17) 1 (by omega) rfl M 0 q17 (hn (by decide) _ (by rw [Nat.zero_add]; rfl))
                · exact vl_load 3 agg_int0 (.tmp 117) rfl _ _ (dv ⟨14, .data⟩ (by simp) rfl (by decide)) k1 (hn (by decide) _ rfl)
                · exact fa_move (.tmp 17) 2 (by omega) rfl M 0 q17 (hn (by decide) _ (by rw [Nat.zero_add]; rfl))
                · exact vl_load 3 agg_int0 (.tmp 119) rfl _ _ (dv ⟨16, .data⟩ (by simp) rfl (by decide)) k2 (hn (by decide) _ rfl)
                · exact vl_call4 14 _ _ _ _ (.tmp 115) (.tmp 116) (.tmp 118) (.tmp 120) rfl enter_rHours _ _ _ _ (dv ⟨12, .data⟩ (by simp) rfl (by decide)) (dv ⟨13, .data⟩ (by simp) rfl (by decide)) (dv ⟨15, .data⟩ (by simp) rfl (by decide)) (dv ⟨17, .data⟩ (by simp) rfl (by decide)) ((rHours_any tt _ d m.frm m.to _ (HD.out.keep hbw)).mono fun e w11 ⟨he, hb8⟩ => ⟨_, he, hK _ _ (ext_trans hb hb8) hb8 ((r26P_is (by decide)).2 (congrArg (Value.int .i64) HHV.out))⟩)
                · exact wp_add1 (.tmp 111) (.tmp 121) rfl _ _ (dv ⟨8, .data⟩ (by simp) rfl (by decide)) (dv ⟨18, .data⟩ (by simp) rfl (by decide)) (by omega) (hn (by decide) _ rfl)
                · exact bd_trip (.tmp 104) (.tmp 109) (.tmp 110) (.tmp 122) ⟨m.item, tt.name, s, s + hq⟩ rfl (dv ⟨1, .data⟩ (by simp) rfl (by decide)) (dv ⟨6, .data⟩ (by simp) rfl (by decide)) (dv ⟨7, .data⟩ (by simp) rfl (by decide)) (dv ⟨19, .data⟩ (by simp) rfl (by decide)) (hn (by decide) _ rfl)
                · exact al_trip rfl (hK _ _ (below_alloc hb _) ((Below.refl _ _).alloc (Nat.le_refl _) _) ⟨_, rfl, hb.size, by simp, X4_new _⟩)
              · rintro op a w10 hop hsm hb hv K hK
                have ho' := Option.some.inj hop
                subst ho'
                obtain ⟨b9, e9, f1, f2, f3⟩ : ∃ b, a.eval (.tmp 22) = .pointer (some ⟨b, 0, none⟩) ∧ wc.heap.size ≤ b ∧ b < w10.heap.size ∧ X4 w10 b := hv 21 (by omega)
                have e95 : a.eval (.tmp 123) = .agg #[.string (bs m.item), .string (bs tt.name), .int .i64 s, .int .i64 (s + hq)] := (r26P_is (by decide)).1 (hv 20 (by omega))
                have hsx := setX_at f3 ⟨m.item, tt.name, s, s + hq⟩
                have hgx := setX_grown w10 b9 ⟨m.item, tt.name, s, s + hq⟩
                exact st_trip (.tmp 22) (.tmp 123) ⟨m.item, tt.name, s, s + hq⟩ b9 rfl rfl e9 e95 f3 (hK _ _ ⟨hsm, b9, e9, f1, Nat.lt_of_lt_of_le f2 hgx.size, below_own hb hgx (fun k hk => by have := Option.some.inj hk; omega), hsx.1, hsx.2⟩)
              · rintro a w10 ⟨hsm, b9, e9, f1, f2, hb, hx1, hx4⟩
                have hsm' : Sm [103, 104, 105, 106, 107, 108, 109, 110, 111, 112, 113, 114, 115, 116, 117, 118, 119, 120, 121, 122, 123, 22] a0 a := hsm
                have HA := hsm'.lit
                simp only [List.foldl] at HA
                rw [e9] at HA
                generalize a.eval (.tmp 103) = t103 at HA
                generalize a.eval (.tmp 104) = t104 at HA
                generalize a.eval (.tmp 105) = t105 at HA
                generalize a.eval (.tmp 106) = t106 at HA
                generalize a.eval (.tmp 107) = t107 at HA
                generalize a.eval (.tmp 108) = t108 at HA
                generalize a.eval (.tmp 109) = t109 at HA
                generalize a.eval (.tmp 110) = t110 at HA
                generalize a.eval (.tmp 111) = t111 at HA
                generalize a.eval (.tmp 112) = t112 at HA
                generalize a.eval (.tmp 113) = t113 at HA
                generalize a.eval (.tmp 114) = t114 at HA
                generalize a.eval (.tmp 115) = t115 at HA
                generalize a.eval (.tmp 116) = t116 at HA
                generalize a.eval (.tmp 117) = t117 at HA
                generalize a.eval (.tmp 118) = t118 at HA
                generalize a.eval (.tmp 119) = t119 at HA
                generalize a.eval (.tmp 120) = t120 at HA
                generalize a.eval (.tmp 121) = t121 at HA
                generalize a.eval (.tmp 122) = t122 at HA
                generalize a.eval (.tmp 123) = t123 at HA
                rw [HA, ha0]
                simp only [Act.put, List.setIfInBounds_toArray, List.set_cons_zero, List.set_cons_succ]
                clear HA hsm hsm' e9 ha0 z21 z20 z1 z2 z17
                have hb810 : Below w8.heap.size w8 w10 := ext_trans hb8c hb
                obtain ⟨hx410, hm10⟩ := hat.out.below (show M + 1 < w8.heap.size by omega) hb810
                have x0 : w10.cell? ⟨b9, 0, none⟩ = some (.string (bs m.item)) := hx1.c0
                have x1 : w10.cell? ⟨b9, 1, none⟩ = some (.string (bs tt.name)) := hx1.c1
                have x2 : w10.cell? ⟨b9, 2, none⟩ = some (.int .i64 s) := hx1.c2
                have x3 : w10.cell? ⟨b9, 3, none⟩ = some (.int .i64 (s + hq)) := hx1.c3
                have HTR : Hid (tripV tt d (stA us pl en i) m = ⟨m.item, tt.name, s, s + hq⟩) := by
                  show _ = _
                  unfold tripV
                  rw [HS.out, HHV.out]
                have HSX := Lib.hid (setX_at hx410 ⟨m.item, tt.name, s, s + hq⟩)
                have HGX := Lib.hid (grownBy_trans hg8.out (grownBy_trans (grownBy_of_below hb810 (some (M + 1))) (setX_grown w10 (M + 1) ⟨m.item, tt.name, s, s + hq⟩)))
                have HGN := Lib.hid (grownBy_trans hg8.out (grownBy_of_below hb810 (some (M + 1))))
                have HX410 := Lib.hid hx410
                obtain ⟨y0, hy0⟩ := Option.isSome_iff_exists.1 hx410.e0
                obtain ⟨y1, hy1⟩ := Option.isSome_iff_exists.1 hx410.e1
                obtain ⟨y2, hy2⟩ := Option.isSome_iff_exists.1 hx410.e2
                obtain ⟨y3, hy3⟩ := Option.isSome_iff_exists.1 hx410.e3
                have hfz := hx410.fz
                have hMb : M + 1 < w10.heap.size := by have := hb810.size; omega
                clear hx1 hx4 hx410 e0 e1 e2 hKc hBc hb8c hb89 cU m0 m1 m2 m3 m4 t1
                obtain ⟨r, hr⟩ : ∃ r, bestF tr d (stA us pl en) m i = r := ⟨_, rfl⟩
                rw [hr] at hm10
                have HRR := Lib.hid hr
                clear hr hat
                cases r with
                | none =>
                  have hm10 : u18 = .int .i64 (-1) := hm10
                  subst hm10
                  have HN : Hid (bestF tr d (stA us pl en) m (i + 1) = some (i, ⟨m.item, tt.name, s, s + hq⟩)) := by
                    show _ = _
                    rw [HFI.out hld HRR.out, HTR.out]
                  go_wp2_with fail
                  go_roundw
                  case rel => exact ⟨i + 1, by omega, by go_num, HGX.out, by rw [HN.out]; exact ⟨HSX.out.2, rfl, HSX.out.1⟩⟩
                  case measure => simp [intOf]; omega
                | some jy =>
                  obtain ⟨jb, y⟩ := jy
                  obtain ⟨hu, hxy⟩ : u18 = .int .i64 jb ∧ XAt w10 (M + 1) 0 y := hm10
                  subst hu
                  have HXY := Lib.hid hxy
                  have hy3' : w10.cell? ⟨M + 1, 3, none⟩ = some (.int .i64 y.fin) := hxy.c3
                  have e3 := Option.some.inj (hy3.symm.trans hy3')
                  subst e3
                  clear hxy hy3'
                  have jneg : decide ((jb : Int) < 0) = false := by rw [decide_eq_false_iff_not]; omega
                  by_cases hlf : s + hq < y.fin
                  · have HN : Hid (bestF tr d (stA us pl en) m (i + 1) = some (i, ⟨m.item, tt.name, s, s + hq⟩)) := by
                      show _ = _
                      rw [HLE.out jb y hld HRR.out (by rw [HTR.out]; exact hlf), HTR.out]
                    go_wp2_with fail
                    go_roundw
                    case rel => exact ⟨i + 1, by omega, by go_num, HGX.out, by rw [HN.out]; exact ⟨HSX.out.2, rfl, HSX.out.1⟩⟩
                    case measure => simp [intOf]; omega
                  · have HN : Hid (bestF tr d (stA us pl en) m (i + 1) = some (jb, y)) := by
                      show _ = _
                      rw [HKE.out jb y hld HRR.out (by rw [HTR.out]; dsimp only; omega)]
                    go_wp2_with fail
                    go_roundw
                    case rel => exact ⟨i + 1, by omega, by go_num, HGN.out, by rw [HN.out]; exact ⟨HX410.out, rfl, HXY.out⟩⟩
                    case measure => simp [intOf]; omega
        · obtain rfl : i = tr.length := by omega
          have HX8 := Lib.hid (HX2.out.kept hg8.out (HXLT.out (M + 1) (by omega)))
          have j1 : ¬ (tr.length : Int) < (tr.length : Int) := by omega
          obtain ⟨r, hr⟩ : ∃ r, bestF tr d (stA us pl en) m tr.length = r := ⟨_, rfl⟩
          have HRR := Lib.hid hr
          have hat2 := hat.out
          rw [hr] at hat2 HPA
          clear hr hat
          cases r with
          | none =>
            have hu : u18 = .int .i64 (-1) := hat2.2
            subst hu
            have HN : Hid (planE ms tr d = 25 ∧ planV ms tr d = []) := ⟨by rw [HE2.out, HPA.out], by rw [HV2.out, HPA.out]; rfl⟩
            clear hat2
            go_wp2_with fail
            go_ret2
            exact retXE rfl HN.out.1.symm (SX_nil _) HN.out.2.symm HR8.out.hb
          | some jy =>
            obtain ⟨jb, y⟩ := jy
            obtain ⟨hx4, hu, hxy⟩ : X4 w8 (M + 1) ∧ u18 = .int .i64 jb ∧ XAt w8 (M + 1) 0 y := hat2
            subst hu
            have hjt := (bestF_some HRR.out).1
            have HBD := Lib.hid (bestA HYD.out hfacts.out.2.2 (m := m) (by omega) (Nat.le_refl _) HRR.out)
            have HP2 : Hid (planO ms tr d = planF tr d ((srtM ms).drop (k + 1)) (upd (stA us pl en) jb (m.to, y.fin)) (acc ++ [y])) := by
              show _ = _; rw [HPA.out]
            have HM8 : Hid (MAt w8 M 0 m) := HMW.out.grown hg8.out (by simp)
            have HXY := Lib.hid hxy
            have jneg : decide ((jb : Int) < 0) = false := by rw [decide_eq_false_iff_not]; omega
            have hjt' : (jb : Int) < (tr.length : Int) := by omega
            have cu := HR8.out.u.cellH hjt
            have fu := HR8.out.u.fzH jb
            clear hx4 hxy HPA j1
            go_upto_region 33 with (fail)
            obtain ⟨wA, hwA⟩ : ∃ wA, wA = w8.setCell ⟨g4, jb, none⟩ (.bool true) := ⟨_, rfl⟩
            rw [← hwA]
            have hgA : w8.grownBy wA (some g4) := by rw [hwA]; exact grownBy_set _ _ _ _
            have HRA : Hid (RP w B g1 g2 g3 g4 ms.length tr.length wA (fun i => if i = j then true else tk i) (fun i => if i = jb then true else us i) pl en) := by show RP _ _ _ _ _ _ _ _ _ _ _ _ _; rw [hwA]; exact HR8.out.setU jb
            have HXA := Lib.hid (HX8.out.kept hgA (.inr fun e => by have := HX8.out.lt g4 e; omega))
            have HMA := Lib.hid (HM8.out.grown hgA (by intro e; have := Option.some.inj e; omega))
            have HYA := Lib.hid (HXY.out.grown hgA (by intro e; have := Option.some.inj e; omega))
            clear hwA hgA cu fu HX8 HM8 HXY HR8 hg8
            have m2 : wA.cell? ⟨M, 2, none⟩ = some (.int .i64 m.to) := HMA.out.c2
            have cp := HRA.out.p.cellH (k := jb) (by rw [hfacts.out.2.2.1]; exact hjt)
            have fp := HRA.out.p.fzH jb
            go_upto_region 34 with (fail)
            obtain ⟨wB, hwB⟩ : ∃ wB, wB = wA.setCell ⟨g2, jb, none⟩ (.int .i64 m.to) := ⟨_, rfl⟩
            rw [← hwB]
            have hgB : wA.grownBy wB (some g2) := by rw [hwB]; exact grownBy_set _ _ _ _
            have HRB : Hid (RP w B g1 g2 g3 g4 ms.length tr.length wB (fun i => if i = j then true else tk i) (fun i => if i = jb then true else us i) (pl.set jb m.to) en) := by show RP _ _ _ _ _ _ _ _ _ _ _ _ _; rw [hwB]; exact HRA.out.setP jb m.to
            have HXB := Lib.hid (HXA.out.kept hgB (.inr fun e => by have := HXA.out.lt g2 e; omega))
            have HYB := Lib.hid (HYA.out.grown hgB (by intro e; have := Option.some.inj e; omega))
            clear hwB hgB cp fp m2 HXA HMA HYA HRA
            have y3 : wB.cell? ⟨M + 1, 3, none⟩ = some (.int .i64 y.fin) := HYB.out.c3
            have ce := HRB.out.e.cellH (k := jb) (by rw [hfacts.out.2.2.2.1]; exact hjt)
            have fe := HRB.out.e.fzH jb
            go_upto_region 35 with (fail)
            obtain ⟨wC, hwC⟩ : ∃ wC, wC = wB.setCell ⟨g3, jb, none⟩ (.int .i64 y.fin) := ⟨_, rfl⟩
            rw [← hwC]
            have hgC : wB.grownBy wC (some g3) := by rw [hwC]; exact grownBy_set _ _ _ _
            have HRC : Hid (RP w B g1 g2 g3 g4 ms.length tr.length wC (fun i => if i = j then true else tk i) (fun i => if i = jb then true else us i) (pl.set jb m.to) (en.set jb y.fin)) := by show RP _ _ _ _ _ _ _ _ _ _ _ _ _; rw [hwC]; exact HRB.out.setE jb y.fin
            have HXC := Lib.hid (HXB.out.kept hgC (.inr fun e => by have := HXB.out.lt g3 e; omega))
            have hyc := HYB.out.grown hgC (by intro e; have := Option.some.inj e; omega)
            clear hwC hgC ce fe y3 HXB HYB HRB
            have y0 : wC.cell? ⟨M + 1, 0, none⟩ = some (.string (bs y.item)) := hyc.c0
            have y1 : wC.cell? ⟨M + 1, 1, none⟩ = some (.string (bs y.truck)) := hyc.c1
            have y2 : wC.cell? ⟨M + 1, 2, none⟩ = some (.int .i64 y.start) := hyc.c2
            have y3 : wC.cell? ⟨M + 1, 3, none⟩ = some (.int .i64 y.fin) := hyc.c3
            have hacc : acc.length ≤ 128 := by have := hfacts.out.1; omega
            have hBC := HRC.out.bs
            clear hyc
            go_wp2_with (at_builtin; refine wpList_app_X rfl (.tmp 150) (.tmp 152) rfl B _ acc [y] rfl (HXC.out.alloc _) ⟨wC.heap.size, 0, none⟩ 1 1 rfl (sX_one ⟨by simp, by simp, by simp, by simp⟩) (by simp; omega) (by simp; omega) ?_)
            intro v7 wD ho7 hg7 hat7
            have HO7 := Lib.hid ho7
            have hCD : wC.grownBy wD (Value.slice la acc.length lc).ownBlock := grownBy_far (grownBy_of_below ((Below.refl _ _).alloc (Nat.le_refl _) _) _) hg7 (fun n hn => .inr hn)
            have HRD := Lib.hid (HRC.out.grown hCD (fun n hn => (HXC.out.lt n hn).1))
            clear ho7 hg7 hat7 hCD y0 y1 y2 y3 HRC HXC
            go_wp2_with fail
            go_roundw
            case rel =>
              refine ⟨k + 1, acc ++ [y], _, _, _, _, by omega, by go_num, HRD.out, HO7.out, ⟨?_, HJ4.out, ?_⟩, ?_⟩
              · have := hfacts.out.1; simp; omega
              · exact hfacts.out.2.2.set hjt (by omega) HBD.out
              · show _ = _
                rw [HP2.out, stA_upd hfacts.out.2.2 hjt]
            case measure => simp [intOf]; omega
    · obtain rfl : k = ms.length := by omega
      have i1 : ¬ (ms.length : Int) < (ms.length : Int) := by omega
      have HN : Hid (planE ms tr d = 0 ∧ planV ms tr d = acc) := by
        have : planO ms tr d = some acc := by rw [hpl.out, ← HLM.out, List.drop_length]; rfl
        exact ⟨by rw [HE2.out, this], by rw [HV2.out, this]; rfl⟩
      clear hpl
      go_wp2_with fail
      go_ret2
      exact retXE rfl HN.out.1.symm hx.out.s HN.out.2.symm hR.out.hb
end Go.Proofs.YtpbmmdoodmbneaaDoor

/- The law TransportPlans. -/
namespace Go.Proofs.YtpbmmdoodmbneaaDoor
open Go.RowKit

set_option maxHeartbeats 4000000 in
set_option maxRecDepth 100000 in
theorem Plans_any (v dv mv : Value) (ms : List Mov) (tr : List Trk) (d : List (List Int)) (w : World) (hm : SM w mv ms) (hk : SK w v tr) (hd : SS w dv d) (hz : ∀ t ∈ tr, t.name.length ≤ maxLen) (hzm : ∀ m ∈ ms, m.item.length ≤ maxLen) (hM : MLen w) (hu : ∀ m ∈ ms, m.item.length ≤ 1100000) :
    Calls Tryd.prog 4 #[.agg #[v, dv, mv]] w (Ret w (.bool true)) := by
  have HL := Lib.hid (LT.of hm hk hd hz hzm hM)
  have HRP := Lib.hid (fun (W : World) (hb : Below w.heap.size w W) => rPlan_any mv v dv ms tr d W (hm.keep hb) (hk.keep hb) (hd.keep hb) hz hu)
  obtain ⟨ma, mc, rfl, mn, mm, _⟩ := hm
  obtain ⟨ka, kc, rfl, _⟩ := hk
  obtain ⟨da, dc, rfl, _⟩ := hd.open
  clear hd hz hzm hM mn mm hu
  have HB0 := Lib.hid (Yb.start w (.slice ka tr.length kc) (.slice da d.length dc) (.slice ma ms.length mc) 26)
  have q0 := HB0.out.q0
  have q1 := HB0.out.q1
  have q2 := HB0.out.q2
  go_enter Tryd.func4, Tryd.ntmps4
  go_wp2_with fail
  refine (HL.out.lt 140 (by omega) _ HB0.out.hb).mono ?_
  rintro e w1 ⟨rfl, hb⟩
  have HB1 := Lib.hid (HB0.out.keep hb)
  clear hb q0 q1 q2
  cases hE : lightB tr d && decide (ms.length ≤ 140)
  · go_wp2_with fail
    refine (HL.out.aw _ HB1.out.hb).mono ?_
    rintro e w2 ⟨rfl, hb⟩
    have HB2 := Lib.hid (HB1.out.keep hb)
    clear hb
    go_wp2_with fail
    go_ret
    exact ⟨rfl, HB2.out.hb⟩
  have q0 := HB1.out.q0
  have q1 := HB1.out.q1
  have q2 := HB1.out.q2
  go_wp2_with fail
  refine (HL.out.pl _ HB1.out.hb).mono ?_
  rintro e w2 ⟨lv, rfl, hx, hb⟩
  have HB2 := Lib.hid (HB1.out.keep hb)
  have HX := Lib.hid hx
  clear hb q0 q1 q2 hx
  have q0 := HB2.out.q0
  have q1 := HB2.out.q1
  have q2 := HB2.out.q2
  go_wp2_with fail
  refine (HRP.out _ HB2.out.hb).mono ?_
  rintro e w3 ⟨lv2, rfl, hx2, hb⟩
  have HB3 := Lib.hid (HB2.out.keep hb)
  have HX1 := Lib.hid (HX.out.keep hb)
  have HX2 := Lib.hid hx2
  clear hb q0 q1 q2 hx2 HX
  generalize planV ms tr d = l at *
  generalize planE ms tr d = er at *
  go_wp2_with fail
  refine (rSame_trips _ _ l l _ HX1.out HX2.out).mono ?_
  rintro e w4 ⟨rfl, hq⟩
  rw [decide_eq_true rfl]
  have HB4 := Lib.hid (HB3.out.keep (below_quiet hq))
  clear hq
  go_wp2_with fail
  refine (HL.out.aw _ HB4.out.hb).mono ?_
  rintro e w5 ⟨rfl, hb⟩
  have HB5 := Lib.hid (HB4.out.keep hb)
  clear hb
  go_wp2_with fail
  go_ret
  exact ⟨rfl, HB5.out.hb⟩
end Go.Proofs.YtpbmmdoodmbneaaDoor
