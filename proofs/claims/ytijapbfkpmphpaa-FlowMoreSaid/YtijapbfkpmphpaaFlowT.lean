/- Contract: Johnson of the reference. -/
import Derived.Test.YtijapbfkpmphpaaFlowS
namespace Go.Proofs.Ytijapbfkpmphpaa
open Go.RowKit

theorem next_has {p : List (List Int)} {l : List Int} {k : Nat} (h : (l.any fun y => (k : Int) == y) = true) : nextJ p l (k + 1) = nextJ p l k := by rw [nextJ_succ, h]; simp
theorem next_yes {p : List (List Int)} {l : List Int} {k : Nat} (h : (l.any fun y => (k : Int) == y) = false) (h2 : nextJ p l k < 0 ∨ befV p k (nextJ p l k) = true) : nextJ p l (k + 1) = k := by
  rw [nextJ_succ, h]; rcases h2 with h2 | h2 <;> simp [h2]
theorem next_no {p : List (List Int)} {l : List Int} {k : Nat} (h : (l.any fun y => (k : Int) == y) = false) (h2 : ¬ nextJ p l k < 0) (h3 : befV p k (nextJ p l k) = false) : nextJ p l (k + 1) = nextJ p l k := by
  rw [nextJ_succ, h, h3]; simp [h2]

set_option maxHeartbeats 1000000 in
theorem rJohnson_any (v : Value) (p : List (List Int)) (w : World) (h : SS w v p) :
    Calls Try.prog 22 #[v] w (RetIE w (johnL p) (johnE p)) := by
  have H := Lib.hid h
  obtain ⟨vs, ⟨a, cap, rfl, h1, h2, h3⟩, h4⟩ := h
  have H3 := Lib.hid h3
  have H4 := Lib.hid h4
  clear h3 h4
  go_enter Try.func22, Try.ntmps22
  go_wp2_with fail
  refine (shop_any _ p _ H.out).mono ?_
  rintro e w1 ⟨rfl, m1, rfl⟩
  by_cases c0 : checkE p = 0
  rotate_left
  · have hE := Lib.hid (johnE_bad c0)
    have hb : (checkE p != 0) = true := by simpa using c0
    clear c0
    go_wp2_with fail
    go_ret2
    exact retIE rfl hE.out.1.symm (SI_nil _) hE.out.2.symm (below_drewN' (Below.refl _ _) _)
  have hb : (checkE p != 0) = false := by simpa using c0
  have C0 := Lib.hid c0
  have hg := checkE_zero c0
  have h32 := hg.len
  have HG := Lib.hid hg
  clear c0 hg
  by_cases hp0 : 0 < p.length
  · obtain ⟨b0, o0, ha, k0⟩ := H3.out 0 hp0
    obtain ⟨ak, ck, ek, g1, g2, _⟩ := H4.out 0 hp0
    rw [ek, Nat.add_zero] at k0
    subst ha
    by_cases c2 : (ri p 0).length = 2
    · have hst2 : ∀ k, k < p.length → 2 ≤ (ri p k).length := fun k hk => by rw [(HG.out.st k hk).2.2, c2]; exact Nat.le_refl _
      have HR2 := Lib.hid hst2
      have hE := Lib.hid (johnE_good C0.out (fun _ => c2))
      have hb2 : (((ri p 0).length : Int) != 2) = false := by rw [bne_eq_false_iff_eq]; omega
      have hp0' : decide ((0 : Int) < p.length) = true := by rw [decide_eq_true_eq]; omega
      clear hst2
      go_wp2_with fail
      go_loopw [5, 6] (fun v i wr => ∃ k : Nat, k ≤ p.length ∧ i = .int .i64 k ∧ Hid (Below w.heap.size w wr) ∧ Hid (OwnI wr w.heap.size v (selJ p k))) (fun _ i _ => p.length - (intOf i).toNat)
      case atStart => exact ⟨0, Nat.zero_le _, rfl, below_drewN' (Below.refl _ _) _, OwnI_nil _ _⟩
      case round =>
        obtain ⟨wo, rfl⟩ : ∃ wo : World, wo = wr := ⟨_, rfl⟩
        obtain ⟨k, hk, rfl, hbw, how⟩ := hrel
        obtain ⟨av, cv, ev, _⟩ := how.out.si
        rw [selJ_length] at ev
        subst ev
        have HL := Lib.hid (selJ_length p k)
        have HSS := Lib.hid (show selJ p (k + 1) = selJ p k ++ [nextJ p (selJ p k) p.length] from rfl)
        generalize hl : selJ p k = l at *
        have HLL := Lib.hid hl
        clear hl
        by_cases hlt : k < p.length
        · go_wp2_with fail
          go_loopw [7, 8] (fun x i w2 => ∃ j : Nat, j ≤ p.length ∧ i = .int .i64 j ∧ (∃ m, w2 = wo.drewN m) ∧ x = .int .i64 (nextJ p l j)) (fun _ i _ => p.length - (intOf i).toNat)
          case atStart => exact ⟨0, Nat.zero_le _, rfl, ⟨0, rfl⟩, rfl⟩
          case round =>
            obtain ⟨j, hj, rfl, ⟨m, rfl⟩, rfl⟩ := hrel
            by_cases hjl : j < p.length
            · have hsp := nextJ_spec p l j
              have HSP : Hid (0 ≤ nextJ p l j → nextJ p l j < p.length) := fun h => by rcases hsp with ⟨e, _⟩ | ⟨_, e, _⟩ <;> omega
              clear hsp
              go_wp2_with fail
              refine (has_any _ (j : Int) l _ (how.out.si.drewN _)).mono ?_
              rintro e w1 ⟨rfl, m2, rfl⟩
              cases hh : (l.any fun y => (j : Int) == y)
              · by_cases hx : nextJ p l j < 0
                · have hxb : decide (nextJ p l j < 0) = true := by rw [decide_eq_true_eq]; exact hx
                  have HN := Lib.hid (next_yes (p := p) hh (.inl hx))
                  clear hh hx
                  go_wp2_with fail
                  go_roundw
                  case rel => exact ⟨j + 1, by omega, by go_num, ⟨_, rfl⟩, by rw [HN.out]⟩
                  case measure => simp [intOf]; omega
                · have hxb : decide (nextJ p l j < 0) = false := by rw [decide_eq_false_iff_not]; exact hx
                  have hj2 := HSP.out (by omega)
                  have HH := Lib.hid hh
                  have HX := Lib.hid hx
                  clear hh
                  obtain ⟨n, hn⟩ : ∃ n : Nat, nextJ p l j = (n : Int) := ⟨(nextJ p l j).toNat, by omega⟩
                  have HNE := Lib.hid hn
                  rw [hn] at hxb hj2 ⊢
                  clear hn hx
                  have hn2 : n < p.length := by omega
                  go_wp2_with fail
                  refine (before_any _ p j n _ (H.out.keep (below_drewN' hbw.out _)) hjl hn2 HR2.out).mono ?_
                  rintro e w1 ⟨rfl, m3, rfl⟩
                  cases hf : befV p j n
                  · have HN := Lib.hid (next_no (p := p) HH.out (by have := HX.out; omega) (by rw [HNE.out]; exact hf))
                    clear hf
                    go_wp2_with fail
                    go_roundw
                    case rel => exact ⟨j + 1, by omega, by go_num, ⟨_, rfl⟩, by rw [HN.out, HNE.out]⟩
                    case measure => simp [intOf]; omega
                  · have HN := Lib.hid (next_yes (p := p) HH.out (.inr (by rw [HNE.out]; exact hf)))
                    clear hf
                    go_wp2_with fail
                    go_roundw
                    case rel => exact ⟨j + 1, by omega, by go_num, ⟨_, rfl⟩, by rw [HN.out]⟩
                    case measure => simp [intOf]; omega
              · have HN := Lib.hid (next_has (p := p) hh)
                clear hh
                go_wp2_with fail
                go_roundw
                case rel => exact ⟨j + 1, by omega, by go_num, ⟨_, rfl⟩, by rw [HN.out]⟩
                case measure => simp [intOf]; omega
            · have hjp : j = p.length := by omega
              subst hjp
              have hll := HL.out
              have hsb := hbw.out.size
              go_wp2_with (at_builtin; refine wpList_app_int rfl (.tmp 51) (.tmp 53) rfl w.heap.size _ _ l [nextJ p l p.length] rfl rfl ((how.out.drewN _).alloc _) (SI_one _ _ _) (by simp; omega) (by simp; omega) ?_)
              intro va w2 hoa hga _
              have hba : Below w.heap.size w w2 := ((below_drewN' hbw.out _).alloc hsb _).grown hga (by simp; omega) (fun k hk => (World.ownsRow.lt how.out k hk).1)
              rw [← HSS.out] at hoa
              have HO := Lib.hid hoa
              have HBA := Lib.hid hba
              clear hoa hba hga
              go_wp2_with fail
              go_roundw
              case rel => exact ⟨k + 1, by omega, by go_num, HBA, HO⟩
              case measure => simp [intOf]; omega
        · have hkp : k = p.length := by omega
          subst hkp
          go_wp2_with fail
          go_ret2
          exact retIE rfl hE.out.1.symm how.out.si (by rw [hE.out.2, HLL.out]) hbw.out
    · have hE := Lib.hid (johnE_shape C0.out hp0 c2)
      have hb2 : (((ri p 0).length : Int) != 2) = true := by rw [bne_iff_ne]; omega
      have hp0' : decide ((0 : Int) < p.length) = true := by rw [decide_eq_true_eq]; omega
      go_wp2_with fail
      go_ret2
      exact retIE rfl hE.out.1.symm (SI_nil _) hE.out.2.symm (below_drewN' (Below.refl _ _) _)
  · have hE := Lib.hid (johnE_good C0.out (fun h => absurd h hp0))
    have hp0' : decide ((0 : Int) < p.length) = false := by rw [decide_eq_false_iff_not]; omega
    have hpl : p.length ≤ 0 := by omega
    have HSL : Hid (selJ p p.length = []) := by
      have : p.length = 0 := by omega
      show selJ p p.length = []
      rw [this]; rfl
    go_wp2_with fail
    go_loopw [5, 6] (fun v i wr => wr = w.drewN m1 ∧ v = .slice none 0 0 ∧ ∃ k : Nat, p.length ≤ k ∧ i = .int .i64 k) (fun _ _ _ => 0)
    case atStart => exact ⟨rfl, rfl, 0, by omega, rfl⟩
    case round =>
      obtain ⟨rfl, rfl, k, hk, rfl⟩ := hrel
      have hlt : ¬ k < p.length := by omega
      go_wp2_with fail
      go_ret2
      exact retIE rfl hE.out.1.symm (SI_nil _) (by rw [hE.out.2, HSL.out]) (below_drewN' (Below.refl _ _) _)
end Go.Proofs.Ytijapbfkpmphpaa
