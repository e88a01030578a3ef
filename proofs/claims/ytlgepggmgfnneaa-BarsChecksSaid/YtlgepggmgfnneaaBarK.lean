/- Contract: Offcut of the reference. -/
import Derived.Test.YtlgepggmgfnneaaBarJ
namespace Go.Proofs.Ytlgepggmgfnneaa
open Go.RowKit

set_option maxRecDepth 100000 in
set_option maxHeartbeats 2000000 in
theorem rOffcut_any (v vp : Value) (s : SawD) (b : BarI) (ps : List PartD) (w : World) (hs : SStr w v s.parts) (hp : SP w vp ps) (hbl : b.len ≤ 9223372036854775807) :
    Calls Try.prog 13 #[s.agg v, b.agg, vp] w (RetNE w (offV s b ps) (chkE s b ps)) := by
  have HS := Lib.hid hs
  have HP := Lib.hid hp
  have HBX := Lib.hid (boxSB_new w s v b)
  have HB0 := Lib.hid ((((Below.refl w.heap.size w).alloc (Nat.le_refl _) (.cells #[.string s.bar, .int .i64 s.kerf, v] 24))).alloc (by simp) (.cells #[.string b.id, .string b.sec, .string b.grade, .int .i64 b.len, b.heat] 26))
  have HA : Hid (s.agg v = .agg #[.string s.bar, .int .i64 s.kerf, v]) := rfl
  have HAB : Hid (b.agg = .agg #[.string b.id, .string b.sec, .string b.grade, .int .i64 b.len, b.heat]) := rfl
  rw [HA.out, HAB.out]
  clear hs hp
  go_enter Try.func13, Try.ntmps13
  go_wp2_with fail
  rw [← HA.out, ← HAB.out]
  refine (rCheck_any v vp s b ps _ (HS.out.keep HB0.out) (HP.out.keep HB0.out)).mono ?_
  rintro e wo ⟨rfl, hb⟩
  have HB1 := Lib.hid (ext_trans HB0.out hb)
  have HBX1 := Lib.hid (HBX.out.keep hb)
  clear hb
  rw [HA.out, HAB.out]
  by_cases hz : chkE s b ps = 0
  rotate_left
  · have he : (chkE s b ps != 0) = true := by simpa using hz
    have HV : Hid (offV s b ps = 0) := if_pos hz
    clear hz
    go_wp2_with fail
    go_ret2
    exact retNE rfl rfl HV.out.symm HB1.out
  have he : (chkE s b ps != 0) = false := by rw [hz]; rfl
  have HV : Hid (offV s b ps = max 0 (b.len - needV (lensOf ps s.parts) s.kerf - s.kerf)) := if_neg (by simp [hz])
  have HZ := Lib.hid hz
  have hcz := chkE_zero hz
  have hpz := piecesE_zero hcz.1
  have hll : 0 < (lensOf ps s.parts).length ∧ (lensOf ps s.parts).length ≤ 24 := by simp only [lensOf, List.length_map]; omega
  have hnn := needs_nn (l := lensOf ps s.parts) (k := s.kerf) hll.1 (by omega) hpz.2.2.2.1 hpz.1
  have HIX : Hid (∀ j, j < s.parts.length → 0 ≤ idxOf ps (si s.parts j)) := fun j h => (pieceE_zero (hpz.2.2.2.2 j h)).1
  have hkf := sawnB_iff.1 hpz.1
  have hn2 := hcz.2
  rw [hnn.1] at HV hn2
  have hn1 := hnn.2.1
  have HLEN : Hid (∀ wz, Below wo.heap.size wo wz → Calls Try.prog 28 #[.agg #[.string s.bar, .int .i64 s.kerf, v], vp] wz fun e w' => ∃ v, e = .returned v ∧ SI w' v (lensOf ps s.parts) ∧ Below wo.heap.size wo w') := fun wz hz => by
    rw [← HA.out]
    exact (lengths_any _ _ s ps wz (HS.out.keep (HB1.out.trans (hz.mono HB1.out.size))) (HP.out.keep (HB1.out.trans (hz.mono HB1.out.size))) (by omega) HIX.out).mono fun e w' ⟨v, g1, g2, g3⟩ => ⟨v, g1, g2, ext_trans hz g3⟩
  have HNEED : Hid (∀ v wz, SI wz v (lensOf ps s.parts) → Below wo.heap.size wo wz → Calls Try.prog 27 #[v, .int .i64 s.kerf] wz fun e w' => e = .returned (.int .i64 (needs (lensOf ps s.parts) s.kerf)) ∧ Below wo.heap.size wo w') := fun v wz h1 h2 =>
    (rneeds_any v _ s.kerf wz h1 hll.1 (by omega) hpz.2.2.2.1 hpz.1).mono fun e w' ⟨g1, m, g2⟩ => ⟨g1, by rw [g2]; exact below_drewN' h2 _⟩
  rw [hz]
  clear hz hcz hpz hnn hll
  have s0 := HBX1.out.s0
  have s1 := HBX1.out.s1
  have s2 := HBX1.out.s2
  have d3 := HBX1.out.b3
  generalize hnv : needs (lensOf ps s.parts) s.kerf = n at *
  clear hnv
  have e1 : IntKind.i64.wrap (b.len - n) = b.len - n := IntWalk.i64_in _ (by omega)
  have e2 : IntKind.i64.wrap (b.len - n - s.kerf) = b.len - n - s.kerf := IntWalk.i64_in _ (by omega)
  go_wp2_with fail
  go_region_held3 (fun w' => w'.cell? ⟨w.heap.size, 0, none⟩ = some (.string s.bar) ∧ w'.cell? ⟨w.heap.size, 1, none⟩ = some (.int .i64 s.kerf) ∧ w'.cell? ⟨w.heap.size, 2, none⟩ = some v ∧ w'.cell? ⟨w.heap.size + 1, 3, none⟩ = some (.int .i64 b.len))
    (first | exact ⟨s0, s1, s2, d3⟩ | exact ⟨cell_keep hby s0, cell_keep hby s1, cell_keep hby s2, cell_keep hby d3⟩ | exact ⟨cell_keep hbz s0, cell_keep hbz s1, cell_keep hbz s2, cell_keep hbz d3⟩)
    (first
      | (go_at_call 28; refine (HLEN.out _ (by first | exact Below.refl _ _ | exact below_drewN' (Below.refl _ _) _)).mono ?_; rintro e wy ⟨vy, rfl, hsy, hby⟩)
      | (go_at_call 27; refine (HNEED.out _ _ hsy hby).mono ?_; rintro e wz ⟨rfl, hbz⟩))
  all_goals (go_wp2_with fail)
  all_goals
    go_ret2
    exact retNE rfl HZ.out.symm (by rw [HV.out]; omega) (HB1.out.trans (hbz.mono HB1.out.size))
end Go.Proofs.Ytlgepggmgfnneaa
