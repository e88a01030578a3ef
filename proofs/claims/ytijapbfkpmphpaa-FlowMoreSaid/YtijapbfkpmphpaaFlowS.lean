/- Contracts: Johnson of flow and of the reference. -/
import Derived.Test.YtijapbfkpmphpaaFlowR
import Derived.Test.YtijapbfkpmphpaaSortB
import Derived.Laws.EntriesVeiled
namespace Go.Proofs.Ytijapbfkpmphpaa
open Go.RowKit

/-- 0, 1, .. n - 1 -/
def rangeI (n : Nat) : List Int := (List.range n).map fun k : Nat => (k : Int)
theorem rangeI_length (n) : (rangeI n).length = n := by simp [rangeI]
theorem rangeI_succ (n) : rangeI (n + 1) = rangeI n ++ [(n : Int)] := by simp [rangeI, List.range_succ]
theorem gi_rangeI {n k : Nat} (h : k < n) : gi (rangeI n) k = k := by simp [gi, rangeI, h]
/-- the sort of slices of n integers does what it says -/
def StableOK (n : Nat) : Prop := ∀ (fv : Value) (D : Int → Prop) (c : Int → Int → Int) (w : World) (B g m cap : Nat) (xs : List Int), xs.length = n → OwnI w B (.slice (some ⟨g, 0, none⟩) m cap) xs →
  FnCmp fv w g D c → SWO D (ltOf c) → (∀ x ∈ xs, D x) → Calls Try.prog 38 #[.slice (some ⟨g, 0, none⟩) m cap, fv] w (PostS w B g m cap (ltOf c) xs 0 xs.length)
theorem stableOK_small {n : Nat} (h : n < 20) : StableOK n := fun fv D c w B g m cap xs hl ho hf hO hD => stable_small fv D c w B g m cap xs ho hf hO hD (by omega)

theorem johnE_bad {p : List (List Int)} (h : checkE p ≠ 0) : johnE p = checkE p ∧ johnL p = [] := by simp [johnE, johnL, h]
theorem johnE_shape {p : List (List Int)} (h : checkE p = 0) (h1 : 0 < p.length) (h2 : (ri p 0).length ≠ 2) : johnE p = 17 ∧ johnL p = [] := by simp [johnE, johnL, h, h1, h2]
theorem johnE_good {p : List (List Int)} (h : checkE p = 0) (h2 : 0 < p.length → (ri p 0).length = 2) : johnE p = 0 ∧ johnL p = selJ p p.length := by
  have : johnE p = 0 := by
    simp only [johnE, h]; simp; exact h2
  simp [johnL, this]

theorem grown_cell {a b : World} {g k : Nat} (h : a.grownBy b (some g)) (hk : k < a.heap.size) (hne : k ≠ g) : b.cell? ⟨k, 0, none⟩ = a.cell? ⟨k, 0, none⟩ := by
  have := h.block k hk (by simp; omega)
  unfold World.cell?
  rw [this]
theorem cell_alloc_old {w : World} {o : Obj} {k : Nat} (hk : k < w.heap.size) : (w.alloc o).cell? ⟨k, 0, none⟩ = w.cell? ⟨k, 0, none⟩ := by
  unfold World.cell? World.alloc
  rw [Array.getElem?_push_lt hk]
  simp [hk]

set_option maxHeartbeats 1000000 in
theorem Johnson_any (v : Value) (p : List (List Int)) (w : World) (h : SS w v p) (hst : StableOK p.length) :
    Calls Try.prog 21 #[v] w (RetIE w (johnL p) (johnE p)) := by
  have H := Lib.hid h
  obtain ⟨vs, ⟨a, cap, rfl, h1, h2, h3⟩, h4⟩ := h
  have H3 := Lib.hid h3
  have H4 := Lib.hid h4
  have HST := Lib.hid hst
  clear h3 h4 hst
  have hmf : ∀ (fn : Fn) (first cap : Array Value) (w : World), (Instr.makeFunc fn first cap).run Try.prog w = .ok (.func fn first cap) w := fun _ _ _ _ => rfl
  go_enter Try.func21, Try.ntmps21
  go_wp2_with fail
  refine (check_any _ p _ (H.out.keep (by exact (Below.refl _ _).alloc (Nat.le_refl _) _))).mono ?_
  rintro e w1 ⟨rfl, m1, rfl⟩
  have HB := Lib.hid (below_drewN' ((Below.refl w.heap.size w).alloc (Nat.le_refl _) (.cells #[.slice a p.length cap] 22)) m1)
  have cW : (((w.alloc (.cells #[.slice a p.length cap] 22)).drewN m1)).cell? ⟨w.heap.size, 0, none⟩ = some (.slice a p.length cap) := by simp
  have hsz : (((w.alloc (.cells #[.slice a p.length cap] 22)).drewN m1)).heap.size = w.heap.size + 1 := by simp
  generalize ((w.alloc (.cells #[.slice a p.length cap] 22)).drewN m1) = wa at *
  have HSZ := Lib.hid hsz
  clear hsz
  by_cases c0 : checkE p = 0
  rotate_left
  · have hE := Lib.hid (johnE_bad c0)
    have hb : (checkE p != 0) = true := by simpa using c0
    clear c0
    go_wp2_with fail
    go_ret2
    exact retIE rfl hE.out.1.symm (SI_nil _) hE.out.2.symm HB.out
  have hb : (checkE p != 0) = false := by simpa using c0
  have C0 := Lib.hid c0
  have hg := checkE_zero c0
  have h32 := hg.len
  have HG := Lib.hid hg
  clear c0 hg
  by_cases hp0 : 0 < p.length
  · obtain ⟨b0, o0, ha, k0⟩ := H3.out 0 hp0
    obtain ⟨ak, ck, ek, g1, g2, _⟩ := H4.out 0 hp0
    rw [ek, Nat.add_zero] at k0
    have k0 := cell_keep HB.out k0
    subst ha
    by_cases c2 : (ri p 0).length = 2
    · have hst2 : ∀ k, k < p.length → (ri p k).length = 2 := fun k hk => by rw [(HG.out.st k hk).2.2]; exact c2
      have HR2 := Lib.hid hst2
      have hE := Lib.hid (johnE_good C0.out (fun _ => c2))
      have hb2 : (((ri p 0).length : Int) != 2) = false := by rw [bne_eq_false_iff_eq]; omega
      have hp0' : decide ((0 : Int) < p.length) = true := by rw [decide_eq_true_eq]; omega
      clear hst2
      go_wp2_with fail
      go_loopw [2, 24] (fun v i wr => ∃ k : Nat, k ≤ p.length ∧ i = .int .i64 k ∧ Hid (Below wa.heap.size wa wr) ∧ Hid (OwnI wr wa.heap.size v (rangeI k))) (fun _ i _ => p.length - (intOf i).toNat)
      case atStart => exact ⟨0, Nat.zero_le _, rfl, Below.refl _ _, OwnI_nil _ _⟩
      case round =>
        obtain ⟨k, hk, rfl, hbw, how⟩ := hrel
        by_cases hlt : k < p.length
        · have hrl := rangeI_length k
          have hsb := hbw.out.size
          have HRS := Lib.hid (rangeI_succ k)
          go_wp2_with (at_builtin; refine wpList_app_int rfl (.tmp 27) (.tmp 29) rfl wa.heap.size _ _ (rangeI k) [(k : Int)] rfl rfl (how.out.alloc _) (SI_one _ _ _) (by simp; omega) (by simp; omega) ?_)
          intro va w2 hoa hga _
          have hba : Below wa.heap.size wa w2 := (hbw.out.alloc hsb _).grown hga (by simp; omega) (fun k hk => (World.ownsRow.lt how.out k hk).1)
          rw [← HRS.out] at hoa
          have HO := Lib.hid hoa
          have HBA := Lib.hid hba
          clear hoa hba hga
          go_wp2_with fail
          go_roundw
          case rel => exact ⟨k + 1, by omega, by go_num, HBA, HO⟩
          case measure => simp [intOf]; omega
        · have hkp : k = p.length := by omega
          subst hkp
          rcases how.out.2 with ⟨rfl, hn0⟩ | ⟨g, capg, cur, rfl, hb1, hg, _⟩
          · rw [rangeI_length] at hn0
            omega
          · rw [rangeI_length] at how ⊢
            have hgl := lt_of_block hg
            clear hg
            have cW2 := cell_keep hbw.out cW
            have hBW := Lib.hid (HB.out.trans (hbw.out.mono (by have := HSZ.out; omega)))
            go_wp2_with fail
            have HBS : Hid (Below w.heap.size w (wr.alloc (.cells #[.func (.func 37) #[] #[.pointer (some ⟨w.heap.size, 0, none⟩)]] 51))) := (hBW.out.alloc hBW.out.size _)
            have hgw : w.heap.size < g := by have := HSZ.out; omega
            have hF : FnCmp (.func (.func 39) #[] #[.pointer (some ⟨wr.heap.size, 0, none⟩), .pointer (some ⟨w.heap.size, 0, none⟩)]) (wr.alloc (.cells #[.func (.func 37) #[] #[.pointer (some ⟨w.heap.size, 0, none⟩)]] 51)) g (fun x => 0 ≤ x ∧ x < p.length) (cJ p) := by
              refine ⟨_, _, rfl, fun _ _ => rfl, fun x y w' hx hy hg' => ?_⟩
              have hwl : w.heap.size < wr.heap.size := by omega
              exact cmpJ_any w.heap.size wr.heap.size _ p x y w' (by rw [grown_cell hg' (by simp; omega) (by omega)]; rw [cell_alloc_old hwl]; exact cW2) (by rw [grown_cell hg' (by simp) (by omega)]; simp)
                (H.out.keep (below_of_grownBy HBS.out hg' (by omega))) hx.1 hx.2 hy.1 hy.2 HR2.out (fun k hk s hs => HG.out.num k hk s (by rw [HR2.out k hk]; exact hs))
            refine (HST.out _ _ _ _ wa.heap.size g _ _ (rangeI p.length) (rangeI_length _) (how.out.alloc _) hF (swo_J p _) (fun x hx => ?_)).mono ?_
            · obtain ⟨k, hk, rfl⟩ := mem_gi hx
              rw [rangeI_length] at hk
              rw [gi_rangeI hk]
              omega
            rintro e w2 ⟨rfl, hg2, ys, hoy, hry, _, hsy⟩
            have HYS := Lib.hid (johnL_of p (rangeI p.length) ys (fun k hk => gi_rangeI (by rwa [rangeI_length] at hk)) (rangeI_length _) hry (by rw [hry.length]; exact hsy))
            have HB2 := Lib.hid (below_of_grownBy HBS.out hg2 (by omega))
            have HOY := Lib.hid hoy
            clear hoy hry hsy hg2 hF
            go_wp2_with fail
            go_ret2
            exact retIE rfl hE.out.1.symm HOY.out.si (by rw [HYS.out, hE.out.2]) HB2.out
    · have hE := Lib.hid (johnE_shape C0.out hp0 c2)
      have hb2 : (((ri p 0).length : Int) != 2) = true := by rw [bne_iff_ne]; omega
      have hp0' : decide ((0 : Int) < p.length) = true := by rw [decide_eq_true_eq]; omega
      go_wp2_with fail
      go_ret2
      exact retIE rfl hE.out.1.symm (SI_nil _) hE.out.2.symm HB.out
  · have hE := Lib.hid (johnE_good C0.out (fun h => absurd h hp0))
    have hp0' : decide ((0 : Int) < p.length) = false := by rw [decide_eq_false_iff_not]; omega
    have hpl : p.length ≤ 0 := by omega
    have HSL : Hid (selJ p p.length = []) := by
      have : p.length = 0 := by omega
      show selJ p p.length = []
      rw [this]; rfl
    go_wp2_with fail
    go_loopw [2, 24] (fun v i wr => wr = wa ∧ v = .slice none 0 0 ∧ ∃ k : Nat, p.length ≤ k ∧ i = .int .i64 k) (fun _ _ _ => 0)
    case atStart => exact ⟨rfl, rfl, 0, by omega, rfl⟩
    case round =>
      obtain ⟨rfl, rfl, k, hk, rfl⟩ := hrel
      have hlt : ¬ k < p.length := by omega
      go_wp2_with fail
      refine (stable_nil _ _ _).mono ?_
      rintro e w2 ⟨rfl, rfl⟩
      go_wp2_with fail
      go_ret2
      exact retIE rfl hE.out.1.symm (SI_nil _) (by rw [hE.out.2, HSL.out]) (HB.out.alloc (HB.out.size) _)
end Go.Proofs.Ytijapbfkpmphpaa
