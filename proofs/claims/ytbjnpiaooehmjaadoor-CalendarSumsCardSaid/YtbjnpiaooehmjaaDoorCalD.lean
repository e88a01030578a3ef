/- Contracts: shifted, before, Between. -/
import Derived.Test.YtbjnpiaooehmjaaDoorCalC
namespace Go.Proofs.YtbjnpiaooehmjaaDoor
open Go.RowKit

theorem shf_take (sh : List Sp) (h : Int) (k : Nat) (hk : k < sh.length) : shf (sh.take (k + 1)) h = shf (sh.take k) h + max 0 (min h (pi2 sh k).b - (pi2 sh k).a) := by
  rw [take_succ_pi hk]
  unfold shf
  rw [List.map_append, List.sum_append]; simp
theorem OkS.take {sh : List Sp} : ∀ {p : Int} (k : Nat), OkS p sh → OkS p (sh.take k) := by
  induction sh with
  | nil => intro p k _; rw [List.take_nil]; trivial
  | cons s r ih =>
    intro p k h
    cases k with
    | zero => trivial
    | succ k => obtain ⟨h1, h2, h3, h4, h5⟩ := h; exact ⟨h1, h2, h3, h4, ih k h5⟩

set_option maxHeartbeats 800000 in
theorem shifted_any (v : Value) (sh : List Sp) (cl : List Int) (h : Nat) (w : World) (hc : CalP w v sh cl) (hg : Good sh cl) (hh : h ≤ 168) :
    Calls Tryd.prog 34 #[v, .int .i64 h] w (Ret w (.int .i64 (shf sh h))) := by
  obtain ⟨B, sv, cv, rfl, c0, c1, hsp, hsi⟩ := hc
  have hbl := World.block_lt_of_cell? w _ c0
  obtain ⟨b, off, cap, rfl, n1, n2, hb, hcell⟩ := hsp.form hg.n1
  have HCELL := Lib.hid hcell
  have HG := Lib.hid hg
  have hl := hg.n2
  clear hcell hsp hsi hg c1
  generalize hr : shf sh h = r
  have HR := Lib.hid hr
  clear hr
  go_enter Tryd.func34, Tryd.ntmps34
  go_wp2
  go_loopw [5, 13] (fun n i wr => ∃ k : Nat, k ≤ sh.length ∧ i = .int .i64 k ∧ n = .int .i64 (shf (sh.take k) h) ∧ Hid (Below w.heap.size w wr)) (fun _ i _ => sh.length - (intOf i).toNat)
  case atStart => exact ⟨0, Nat.zero_le _, rfl, by simp [shf], Lib.hid (Below.refl _ _)⟩
  case round =>
    obtain ⟨k, hk, rfl, rfl, hb⟩ := hrel
    have hs0 := (shf_bound (HG.out.os.take k) h)
    by_cases hlt : k < sh.length
    · have hc' := (HCELL.out k hlt).keep hb.out
      have d0 := hc'.c0
      have d1 := hc'.c1
      have hbw : b < _ := World.block_lt_of_cell? _ _ d0
      have hm := HG.out.os.mem _ (pi2_mem hlt)
      have HE := Lib.hid (shf_take sh h k hlt)
      clear hc'
      generalize (pi2 sh k).a = x at d0 hm HE
      generalize (pi2 sh k).b = y at d1 hm HE
      generalize shf (sh.take k) h = z at hs0 HE
      go_wp2_with fail
      all_goals
        go_roundw
        case rel => exact ⟨k+1, by omega, by go_num, by rw [HE.out] <;> go_num, Lib.hid (below_alloc hb.out _)⟩
        case measure => simp [intOf]; omega
    · have e : sh.take k = sh := List.take_of_length_le (by omega)
      have HR2 := Lib.hid HR.out
      rw [← e] at HR2
      clear HR e
      go_wp2_with fail
      go_ret
      exact ⟨ret_int HR2.out, hb.out⟩

/-! hours before a time -/
theorem lost_take (sh : List Sp) (t : Nat) (cl : List Int) (k : Nat) (hk : k < cl.length) : ((cl.take (k + 1)).map (lost sh t)).sum = ((cl.take k).map (lost sh t)).sum + lost sh t (gi cl k) := by
  rw [take_succ_gi hk, List.map_append, List.sum_append]; simp
theorem lost_rest (sh : List Sp) {t : Nat} {cl : List Int} {k : Nat} (hs : cl.Pairwise (· ≤ ·)) (hk : k < cl.length) (h : (t : Int) ≤ 24 * gi cl k) : (cl.map (lost sh t)).sum = ((cl.take k).map (lost sh t)).sum := by
  have e : cl = cl.take k ++ cl.drop k := (List.take_append_drop k cl).symm
  have hz : ∀ x ∈ cl.drop k, lost sh t x = 0 := fun x hx => by
    obtain ⟨j, hj, rfl⟩ := List.mem_iff_getElem.1 hx
    rw [List.length_drop] at hj
    rw [List.getElem_drop]
    refine lost_none ?_
    rw [gi_lt hk] at h
    by_cases e0 : j = 0
    · subst e0; simpa using h
    · have := List.pairwise_iff_getElem.1 hs k (k + j) hk (by omega) (by omega)
      omega
  have hzz : ∀ l : List Int, (∀ x ∈ l, lost sh t x = 0) → (l.map (lost sh t)).sum = 0 := by
    intro l
    induction l with
    | nil => intro _; rfl
    | cons x r ih => intro h; rw [List.map_cons, List.sum_cons, h x (by simp), ih fun y hy => h y (by simp [hy])]; rfl
  conv => lhs; rw [e]
  rw [List.map_append, List.sum_append, hzz _ hz]; omega
theorem lost_bound {sh : List Sp} (hs : OkS 0 sh) (t : Nat) {d : Int} (hd : 0 ≤ d) : 0 ≤ lost sh t d ∧ lost sh t d ≤ 24 := by
  obtain ⟨k, rfl⟩ : ∃ k : Nat, d = k := ⟨d.toNat, by omega⟩
  unfold lost
  split
  · rw [Int.toNat_natCast]
    have h1 := cnt_mono (fW sh) (show 24 * k ≤ min (24 * k + 24) t by omega)
    have h2 := cnt_step (fW sh) (show 24 * k ≤ min (24 * k + 24) t by omega)
    omega
  · omega
theorem lost_sum {sh : List Sp} (hs : OkS 0 sh) (t : Nat) : ∀ (cl : List Int), (∀ x ∈ cl, 0 ≤ x) → 0 ≤ (cl.map (lost sh t)).sum ∧ (cl.map (lost sh t)).sum ≤ 24 * cl.length := by
  intro cl
  induction cl with
  | nil => intro _; simp
  | cons x r ih =>
    intro h
    have h1 := ih fun y hy => h y (by simp [hy])
    have h2 := lost_bound hs t (h x (by simp))
    rw [List.map_cons, List.sum_cons, List.length_cons]
    omega

set_option maxHeartbeats 1000000 in
theorem before_any (v : Value) (sh : List Sp) (cl : List Int) (t : Nat) (w : World) (hc : CalP w v sh cl) (hg : Good sh cl) (ht : t ≤ 1048577) :
    Calls Tryd.prog 22 #[v, .int .i64 t] w (Ret w (.int .i64 (befN sh cl t))) := by
  have HC := Lib.hid hc
  obtain ⟨B, sv, cv, rfl, c0, c1, hsp, hsi⟩ := hc
  have hbl := World.block_lt_of_cell? w _ c0
  obtain ⟨a, cap, rfl, n1, n2, hcell⟩ := hsi
  have HCELL := Lib.hid hcell
  have HG := Lib.hid hg
  have hl := hg.n3
  have HB := Lib.hid (bef_eq hg.os hg.oc t)
  have HSH : ∀ (h : Nat) (w2 : World), Below w.heap.size w w2 → h ≤ 168 → Hid (Calls Tryd.prog 34 #[.pointer (some ⟨B, 0, none⟩), .int .i64 h] w2 (Ret w2 (.int .i64 (shf sh h)))) := fun h w2 hb hh => Lib.hid (shifted_any _ sh cl h w2 (HC.out.keep hb) HG.out hh)
  have s1 := shf_bound hg.os 168
  have s2 := shf_bound hg.os (t % 168)
  have s3 := hg.oc.mem
  have S3 := Lib.hid s3
  clear hcell hsp hg c0 s3
  have hp : 0 ≤ ((t / 168 : Nat) : Int) * shf sh 168 ∧ ((t / 168 : Nat) : Int) * shf sh 168 ≤ 6242 * 168 := by
    refine ⟨Int.mul_nonneg (by omega) s1.1, ?_⟩
    exact Int.mul_le_mul (by omega) s1.2 s1.1 (by omega)
  have HS1 := HSH 168 w (Below.refl _ _) (Nat.le_refl _)
  rw [show ((168 : Nat) : Int) = 168 from rfl] at HS1 s1
  generalize shf sh 168 = S at hp HB HS1 s1
  have e1 : ((t / 168 : Nat) : Int) = (t : Int) / 168 := by omega
  have e2 : ((t % 168 : Nat) : Int) = (t : Int) % 168 := by omega
  rw [e1] at hp HB
  have HS2 : ∀ w2 : World, Below w.heap.size w w2 → Hid (Calls Tryd.prog 34 #[.pointer (some ⟨B, 0, none⟩), .int .i64 ((t : Int) % 168)] w2 (Ret w2 (.int .i64 (shf sh ((t : Int) % 168))))) := fun w2 hb => by
    have := HSH (t % 168) w2 hb (by omega)
    rwa [e2] at this
  rw [e2] at HB s2
  generalize shf sh ((t : Int) % 168) = T at HB HS2 s2
  go_enter Tryd.func22, Tryd.ntmps22
  go_wp2_with fail
  refine HS1.out.mono ?_
  rintro e w1 ⟨rfl, hb1⟩
  have HB1 := Lib.hid hb1
  clear hb1
  go_wp2_with fail
  refine (HS2 w1 HB1.out).out.mono ?_
  rintro e w2 ⟨rfl, hb2⟩
  have HB2 := Lib.hid (ext_trans HB1.out hb2)
  have c1' := cell_keep HB2.out c1
  have hbl2 : B < w2.heap.size := World.block_lt_of_cell? _ _ c1'
  clear hb2
  go_wp2_with fail
  go_loopw [5, 26] (fun n i wr => ∃ k : Nat, k ≤ cl.length ∧ i = .int .i64 k ∧ n = .int .i64 ((t : Int) / 168 * S + T - ((cl.take k).map (lost sh t)).sum) ∧ Hid (Below w.heap.size w wr)) (fun _ i _ => cl.length - (intOf i).toNat)
  case atStart => exact ⟨0, Nat.zero_le _, rfl, by simp, HB2⟩
  case round =>
    obtain ⟨k, hk, rfl, rfl, hb⟩ := hrel
    have hls := lost_sum HG.out.os t (cl.take k) (fun x hx => (S3.out x (List.mem_of_mem_take hx)).1)
    have hll : (cl.take k).length ≤ 400 := by rw [List.length_take]; omega
    by_cases hlt : k < cl.length
    · obtain ⟨b, off, ha, hcc⟩ := HCELL.out k hlt
      have hcc := cell_keep hb.out hcc
      have c1w := cell_keep hb.out c1
      have hbw : B < _ := World.block_lt_of_cell? _ _ c1w
      have hbw2 : b < _ := World.block_lt_of_cell? _ _ hcc
      have hd := S3.out _ (gi_mem hlt)
      obtain ⟨d, hde⟩ : ∃ d : Nat, gi cl k = d := ⟨(gi cl k).toNat, by omega⟩
      have HLT := Lib.hid (lost_take sh t cl k hlt)
      by_cases hbr : t ≤ 24 * d
      · have HLR := Lib.hid (lost_rest sh (t := t) (okC_sorted cl _ HG.out.oc) hlt (by rw [hde]; omega))
        rw [hde] at hcc hd
        subst ha
        generalize ((cl.take k).map (lost sh t)).sum = L at hls HLR
        clear HLT
        go_wp2_with fail
        go_ret
        exact ⟨ret_int (by rw [← HB.out, HLR.out]), hb.out⟩
      · have HLS := Lib.hid (lost_shf HG.out.os (t := t) (d := d) (by omega))
        rw [hde] at hcc hd HLT
        subst ha
        have HSI : ∀ (x : Int) (w2 : World), Below w.heap.size w w2 → 0 ≤ x → x ≤ 168 → Hid (Calls Tryd.prog 34 #[.pointer (some ⟨B, 0, none⟩), .int .i64 x] w2 (Ret w2 (.int .i64 (shf sh x)))) := fun x w2 h0 h1 h2 => by
          have := HSH x.toNat w2 h0 (by omega)
          rwa [show ((x.toNat : Nat) : Int) = x by omega] at this
        have hlb := lost_bound HG.out.os t hd.1
        have SB := Lib.hid (shf_bound HG.out.os)
        have x1 : (((24 * d) % 168 + (min (24 * d + 24) t - 24 * d) : Nat) : Int) = (d : Int) * 24 % 168 + min (((d : Int) + 1) * 24) (t : Int) - (d : Int) * 24 := by omega
        have x2 : (((24 * d) % 168 : Nat) : Int) = (d : Int) * 24 % 168 := by omega
        have b1 := SB.out ((24 * d) % 168 + (min (24 * d + 24) t - 24 * d))
        have b2 := SB.out ((24 * d) % 168)
        rw [x1] at b1
        rw [x2] at b2
        have HLS2 : Hid (lost sh t d = shf sh ((d : Int) * 24 % 168 + min (((d : Int) + 1) * 24) (t : Int) - (d : Int) * 24) - shf sh ((d : Int) * 24 % 168)) := Lib.hid (by have := HLS.out; rwa [x1, x2] at this)
        have C1 : ∀ w2, Below w.heap.size w w2 → Hid (Calls Tryd.prog 34 #[.pointer (some ⟨B, 0, none⟩), .int .i64 ((d : Int) * 24 % 168 + min (((d : Int) + 1) * 24) (t : Int) - (d : Int) * 24)] w2 (Ret w2 (.int .i64 (shf sh ((d : Int) * 24 % 168 + min (((d : Int) + 1) * 24) (t : Int) - (d : Int) * 24))))) := fun w2 h => HSI _ w2 h (by omega) (by omega)
        have C2 : ∀ w2, Below w.heap.size w w2 → Hid (Calls Tryd.prog 34 #[.pointer (some ⟨B, 0, none⟩), .int .i64 ((d : Int) * 24 % 168)] w2 (Ret w2 (.int .i64 (shf sh ((d : Int) * 24 % 168))))) := fun w2 h => HSI _ w2 h (by omega) (by omega)
        generalize shf sh ((d : Int) * 24 % 168 + min (((d : Int) + 1) * 24) (t : Int) - (d : Int) * 24) = X1 at b1 HLS2 C1
        generalize shf sh ((d : Int) * 24 % 168) = X2 at b2 HLS2 C2
        generalize lost sh t ↑d = Y at HLS2 hlb HLT
        clear HLS HSI x1 x2
        have hY := HLS2.out
        generalize ((cl.take k).map (lost sh t)).sum = L at hls HLT
        go_wp2_with fail
        refine (C1 _ hb.out).out.mono ?_
        rintro e w3 ⟨rfl, hb3⟩
        have HB3 := Lib.hid (ext_trans hb.out hb3)
        clear hb3
        go_wp2_with fail
        refine (C2 _ HB3.out).out.mono ?_
        rintro e w4 ⟨rfl, hb4⟩
        have HB4 := Lib.hid (ext_trans HB3.out hb4)
        clear hb4
        go_wp2_with fail
        go_roundw
        case rel => exact ⟨k+1, by omega, by go_num, by rw [HLT.out, hY]; go_num, HB4⟩
        case measure => simp [intOf]; omega
    · have e : cl.take k = cl := List.take_of_length_le (by omega)
      have HR2 := Lib.hid HB.out
      rw [e] at hls ⊢
      clear e
      go_wp2_with fail
      go_ret
      exact ⟨ret_int HR2.out, hb.out⟩
end Go.Proofs.YtbjnpiaooehmjaaDoor
