/- Contracts: Check and Offcut of bars. -/
import Derived.Test.YtlgepggmgfnneaaBarF
import Derived.Test.YtlgepggmgfnneaaBarC
namespace Go.Proofs.Ytlgepggmgfnneaa
open Go.RowKit

def chkE (s : SawD) (b : BarI) (ps : List PartD) : Int := if piecesE s b ps ≠ 0 then piecesE s b ps else if b.len < needV (lensOf ps s.parts) s.kerf then 18 else 0
def offV (s : SawD) (b : BarI) (ps : List PartD) : Int := if chkE s b ps ≠ 0 then 0 else max 0 (b.len - needV (lensOf ps s.parts) s.kerf - s.kerf)
theorem chkE_pieces {s : SawD} {b : BarI} {ps : List PartD} (h : piecesE s b ps ≠ 0) : chkE s b ps = piecesE s b ps := if_pos h
theorem chkE_ok {s : SawD} {b : BarI} {ps : List PartD} (h : piecesE s b ps = 0) : chkE s b ps = if b.len < needV (lensOf ps s.parts) s.kerf then 18 else 0 := if_neg (by simp [h])
theorem chkE_zero {s : SawD} {b : BarI} {ps : List PartD} (h : chkE s b ps = 0) : piecesE s b ps = 0 ∧ needV (lensOf ps s.parts) s.kerf ≤ b.len := by
  by_cases h1 : piecesE s b ps = 0
  · rw [chkE_ok h1] at h
    by_cases h2 : b.len < needV (lensOf ps s.parts) s.kerf
    · rw [if_pos h2] at h; omega
    · exact ⟨h1, by omega⟩
  · rw [chkE_pieces h1] at h; exact absurd h h1

/-- It returns an error. -/
def RetE (w : World) (er : Int) (e : Ending) (w' : World) : Prop := e = .returned (.int .i64 er) ∧ Below w.heap.size w w'
theorem retE {w w' : World} {er er' : Int} {e : Ending} (he : e = .returned (.int .i64 er')) (h : er' = er) (hb : Below w.heap.size w w') : RetE w er e w' := by
  subst h; exact ⟨he, hb⟩

theorem lens_small (ps : List PartD) {ids : List ByteArray} (h : ids.length ≤ 24) : (lensOf ps ids).length ≤ 24 := by simp [lensOf]; omega

set_option maxHeartbeats 1000000 in
theorem Check_any (v vp : Value) (s : SawD) (b : BarI) (ps : List PartD) (w : World) (hs : SStr w v s.parts) (hp : SP w vp ps) :
    Calls Try.prog 14 #[s.agg v, b.agg, vp] w (RetE w (chkE s b ps)) := by
  have HS := Lib.hid hs
  have HP := Lib.hid hp
  have HBX := Lib.hid (boxSB_new w s v b)
  have HB0 := Lib.hid ((((Below.refl w.heap.size w).alloc (Nat.le_refl _) (.cells #[.string s.bar, .int .i64 s.kerf, v] 24))).alloc (by simp) (.cells #[.string b.id, .string b.sec, .string b.grade, .int .i64 b.len, b.heat] 26))
  have HA : Hid (s.agg v = .agg #[.string s.bar, .int .i64 s.kerf, v]) := rfl
  have HAB : Hid (b.agg = .agg #[.string b.id, .string b.sec, .string b.grade, .int .i64 b.len, b.heat]) := rfl
  rw [HA.out, HAB.out]
  clear hs hp
  go_enter Try.func14, Try.ntmps14
  go_wp2_with fail
  rw [← HA.out, ← HAB.out]
  refine (pieces_any v vp s b ps _ (HS.out.keep HB0.out) (HP.out.keep HB0.out)).mono ?_
  rintro e w1 ⟨r1, rfl, hs, hb⟩
  have HS1 := Lib.hid hs
  have HB1 := Lib.hid (ext_trans HB0.out hb)
  have HBX1 := Lib.hid (HBX.out.keep hb)
  clear hs hb
  rw [HA.out, HAB.out]
  by_cases hz : piecesE s b ps = 0
  · have he : (piecesE s b ps == 0) = true := by rw [hz]; rfl
    have HE := Lib.hid (chkE_ok hz)
    rw [piecesL_ok hz] at HS1
    rw [hz]
    clear hz
    have c1 := HBX1.out.s1
    have c3 := HBX1.out.b3
    by_cases hn : b.len < needV (lensOf ps s.parts) s.kerf
    · have hnb : decide (b.len < needV (lensOf ps s.parts) s.kerf) = true := by rw [decide_eq_true_eq]; exact hn
      rw [if_pos hn] at HE
      clear hn
      go_wp2_with fail
      go_quiet ((go_at_call 18; exact Calls.quiet_of (Need_any _ (lensOf ps s.parts) s.kerf _ (HS1.out.drewN _))))
      go_wp2_with fail
      go_ret
      exact retE rfl HE.out.symm (below_drewN' HB1.out _)
    · have hnb : decide (b.len < needV (lensOf ps s.parts) s.kerf) = false := by rw [decide_eq_false_iff_not]; exact hn
      rw [if_neg hn] at HE
      clear hn
      go_wp2_with fail
      go_quiet ((go_at_call 18; exact Calls.quiet_of (Need_any _ (lensOf ps s.parts) s.kerf _ (HS1.out.drewN _))))
      go_wp2_with fail
      go_ret
      exact retE rfl HE.out.symm (below_drewN' HB1.out _)
  · have he : (piecesE s b ps == 0) = false := by rw [beq_eq_false_iff_ne]; exact hz
    have HE := Lib.hid (chkE_pieces hz)
    clear hz
    go_wp2_with fail
    go_quiet (fail)
    go_wp2_with fail
    go_ret
    exact retE rfl HE.out.symm (below_drewN' HB1.out _)

theorem needs_nn {l : List Int} {k : Int} (h0 : 0 < l.length) (hl : l.length ≤ 256) (ha : allB l = true) (hk : sawnB k = true) : needV l k = needs l k ∧ 1 ≤ needs l k ∧ needs l k ≤ 10000000 := by
  have h1 := sum_small (by omega) ha
  have h2 := mul_small (a := (l.length : Int) - 1) (by omega) (by omega) hk
  have h3 : 1 ≤ l.sum := by
    cases l with
    | nil => simp at h0
    | cons x l =>
      have hx := allB_iff.1 ha x (by simp)
      have := sum_le (l := l) (b := 32768) (by omega) (fun y hy => ⟨by have := allB_iff.1 ha y (by simp [hy]); omega, (allB_iff.1 ha y (by simp [hy])).2⟩)
      rw [List.sum_cons]; omega
  refine ⟨by rw [needV, if_neg (by omega), if_neg (by omega), if_neg (by rw [ha]; simp), if_neg (by rw [hk]; simp)], ?_, ?_⟩
  · unfold needs; omega
  · unfold needs; omega

set_option maxHeartbeats 1000000 in
theorem Offcut_any (v vp : Value) (s : SawD) (b : BarI) (ps : List PartD) (w : World) (hs : SStr w v s.parts) (hp : SP w vp ps) (hbl : b.len ≤ 9223372036854775807) :
    Calls Try.prog 12 #[s.agg v, b.agg, vp] w (RetNE w (offV s b ps) (chkE s b ps)) := by
  have HS := Lib.hid hs
  have HP := Lib.hid hp
  have HBX := Lib.hid (boxSB_new w s v b)
  have HB0 := Lib.hid ((((Below.refl w.heap.size w).alloc (Nat.le_refl _) (.cells #[.string s.bar, .int .i64 s.kerf, v] 24))).alloc (by simp) (.cells #[.string b.id, .string b.sec, .string b.grade, .int .i64 b.len, b.heat] 26))
  have HA : Hid (s.agg v = .agg #[.string s.bar, .int .i64 s.kerf, v]) := rfl
  have HAB : Hid (b.agg = .agg #[.string b.id, .string b.sec, .string b.grade, .int .i64 b.len, b.heat]) := rfl
  rw [HA.out, HAB.out]
  clear hs hp
  go_enter Try.func12, Try.ntmps12
  go_wp2_with fail
  rw [← HA.out, ← HAB.out]
  refine (Check_any v vp s b ps _ (HS.out.keep HB0.out) (HP.out.keep HB0.out)).mono ?_
  rintro e w1 ⟨rfl, hb⟩
  have HB1 := Lib.hid (ext_trans HB0.out hb)
  have HBX1 := Lib.hid (HBX.out.keep hb)
  clear hb
  rw [HA.out, HAB.out]
  by_cases hz : chkE s b ps = 0
  rotate_left
  · have he : (chkE s b ps != 0) = true := by simpa using hz
    have HV : Hid (offV s b ps = 0) := if_pos hz
    clear hz
    go_wp2_with fail
    go_ret2
    exact retNE rfl rfl HV.out.symm HB1.out
  have he : (chkE s b ps != 0) = false := by rw [hz]; rfl
  have HV : Hid (offV s b ps = max 0 (b.len - needV (lensOf ps s.parts) s.kerf - s.kerf)) := if_neg (by simp [hz])
  have HZ := Lib.hid hz
  have hcz := chkE_zero hz
  have hpz := piecesE_zero hcz.1
  have hnn := needs_nn (l := lensOf ps s.parts) (k := s.kerf) (by simpa [lensOf] using hpz.2.1) (by have := lens_small ps hpz.2.2.1; omega) hpz.2.2.2.1 hpz.1
  have hkf := sawnB_iff.1 hpz.1
  have hn1 : 1 ≤ needV (lensOf ps s.parts) s.kerf := by omega
  have hn2 : needV (lensOf ps s.parts) s.kerf ≤ b.len := hcz.2
  have HPL := Lib.hid (piecesL_ok hcz.1)
  rw [hz]
  clear hz hcz hpz hnn
  have c0 := HBX1.out.s0
  have c1 := HBX1.out.s1
  have c2 := HBX1.out.s2
  have d0 := HBX1.out.b0
  have d1 := HBX1.out.b1
  have d2 := HBX1.out.b2
  have d3 := HBX1.out.b3
  have d4 := HBX1.out.b4
  go_wp2_with fail
  rw [← HA.out, ← HAB.out]
  refine (pieces_any v vp s b ps _ (HS.out.keep HB1.out) (HP.out.keep HB1.out)).mono ?_
  rintro e w2 ⟨r1, rfl, hs, hb⟩
  rw [HPL.out] at hs
  have HS2 := Lib.hid hs
  have HB2 := Lib.hid (ext_trans HB1.out hb)
  have HBX2 := Lib.hid (HBX1.out.keep hb)
  clear hs hb c0 c1 c2 d0 d1 d2 d3 d4
  rw [HA.out, HAB.out]
  have c1 := HBX2.out.s1
  have d3 := HBX2.out.b3
  generalize hnv : needV (lensOf ps s.parts) s.kerf = n at *
  have HNV := Lib.hid hnv
  clear hnv
  have HNC : Hid (∀ m, Calls Try.prog 18 #[r1, .int .i64 s.kerf] (w2.drewN m) fun e w' => e = .returned (.int .i64 n) ∧ ∃ k, w' = (w2.drewN m).drewN k) := fun m => by rw [← HNV.out]; exact Need_any _ _ _ _ (HS2.out.drewN _)
  have e1 : IntKind.i64.wrap (b.len - n) = b.len - n := IntWalk.i64_in _ (by omega)
  have e2 : IntKind.i64.wrap (b.len - n - s.kerf) = b.len - n - s.kerf := IntWalk.i64_in _ (by omega)
  go_wp2_with fail
  go_quiet ((go_at_call 18; exact Calls.quiet_of (HNC.out _)))
  go_wp2_with fail
  all_goals
    go_ret2
    exact retNE rfl HZ.out.symm (by rw [HV.out]; omega) (below_drewN' HB2.out _)
end Go.Proofs.Ytlgepggmgfnneaa
