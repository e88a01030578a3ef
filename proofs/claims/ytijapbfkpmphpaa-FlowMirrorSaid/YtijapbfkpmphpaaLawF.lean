/- The law FlowMirror. -/
import Derived.Test.YtijapbfkpmphpaaLawE
import Derived.Test.YtijapbfkpmphpaaAppRow
import Derived.Test.YtijapbfkpmphpaaMirSpec2
namespace Go.Proofs.Ytijapbfkpmphpaa
open Go.RowKit

theorem take_rev_succ {xs : List Int} {m : Nat} (h : m < xs.length) : xs.reverse.take (m + 1) = xs.reverse.take m ++ [gi xs (xs.length - 1 - m)] := by
  rw [take_succ_gi (by simpa using h)]
  congr 2
  rw [gi_lt (by simpa using h), gi_lt (by omega), List.getElem_reverse]
theorem take_map_succ {rs : List (List Int)} {k : Nat} (h : k < rs.length) : (rs.map List.reverse).take (k + 1) = (rs.map List.reverse).take k ++ [(ri rs k).reverse] := by
  rw [take_succ_ri (by simpa using h), ri_map h]

set_option maxHeartbeats 2000000 in
theorem mirror_law (v u : Value) (p : List (List Int)) (l : List Int) (w : World) (h : SS w v p) (g : SI w u l) : Calls Try.prog 10 #[v, u] w (Law w) := by
  have H := Lib.hid h
  have G := Lib.hid g
  obtain ⟨vs, ⟨a, cap, rfl, h1, h2, h3⟩, h4⟩ := h
  have H3 := Lib.hid h3
  have H4 := Lib.hid h4
  clear h3 h4
  obtain ⟨a', cap', rfl, g1, g2, g3⟩ := g
  have G3 := Lib.hid g3
  clear g3
  have hm9 : l.length ≤ 9223372036854775807 := by unfold maxLen at g2; omega
  go_enter Try.func10, Try.ntmps10
  go_wp2_with fail
  refine (light_any _ p 32 _ H.out).mono ?_
  rintro e w1 ⟨rfl, m1, rfl⟩
  cases hl : lightB p 32
  · go_wp2_with fail
    refine (awake_any _).mono ?_
    rintro e w2 ⟨rfl, hb⟩
    go_wp2_with fail
    go_ret
    exact law_of rfl (below_drewN' (Below.refl _ _) _) hb
  have h32 := light_len hl
  have HR12 : Hid (∀ j, j < p.length → (ri p j).length ≤ 12) := by
    simp only [lightB, Bool.and_eq_true, decide_eq_true_eq] at hl; exact hl.1
  clear hl
  go_wp2_with fail
  refine (permutation_any _ l p.length _ (G.out.drewN _)).mono ?_
  rintro e w2 ⟨rfl, hb⟩
  have HB2 := Lib.hid (ext_trans (below_drewN' (Below.refl w.heap.size w) m1) hb)
  clear hb
  cases hp : permB l p.length
  · go_wp2_with fail
    refine (awake_any _).mono ?_
    rintro e w2 ⟨rfl, hb⟩
    go_wp2_with fail
    go_ret
    exact law_of rfl HB2.out hb
  have HW := Lib.hid (perm_whole hp)
  have hl32 : l.length ≤ 32 := by have := (perm_whole hp).2; omega
  clear hp
  go_wp2_with fail
  go_loopw [5, 6] (fun t i wr => ∃ k : Nat, k ≤ p.length ∧ i = .int .i64 k ∧ Hid (Below w2.heap.size w2 wr) ∧ Hid (OwnT wr w2.heap.size t ((p.map List.reverse).take k))) (fun _ i _ => p.length - (intOf i).toNat)
  case atStart => exact ⟨0, Nat.zero_le _, rfl, Below.refl _ _, OwnT_nil _ _⟩
  case round =>
    obtain ⟨wo, rfl⟩ : ∃ wo : World, wo = wr := ⟨_, rfl⟩
    obtain ⟨k, hk, rfl, hbw, how⟩ := hrel
    by_cases hlt : k < p.length
    · obtain ⟨b, o, ha, hc⟩ := H3.out k hlt
      obtain ⟨ak, ck, ek, n1, n2, hrow⟩ := H4.out k hlt
      rw [ek] at hc
      have hr12 := HR12.out k hlt
      have HTS := Lib.hid (take_map_succ hlt)
      have HCW := Lib.hid (cell_keep HB2.out hc)
      have hc := cell_keep hbw.out HCW.out
      have HROW := Lib.hid (fun s (hs : s < (ri p k).length) => hrow s hs)
      clear ek hrow
      generalize ri p k = row at *
      rw [ha]
      clear ha
      go_wp2_with fail
      go_loopw [7, 8] (fun r i w3 => ∃ m : Nat, m ≤ row.length ∧ i = .int .i64 ((row.length : Int) - 1 - m) ∧ Hid (Below wo.heap.size wo w3) ∧ Hid (OwnI w3 wo.heap.size r (row.reverse.take m))) (fun _ i _ => (intOf i + 1).toNat)
      case atStart => exact ⟨0, Nat.zero_le _, by go_num, Below.refl _ _, OwnI_nil _ _⟩
      case round =>
        obtain ⟨m, hm, rfl, hb3, ho3⟩ := hrel
        by_cases hlt2 : m < row.length
        · obtain ⟨n, hn, hn2⟩ : ∃ n : Nat, (row.length : Int) - 1 - m = (n : Int) ∧ row.length - 1 - m = n := ⟨row.length - 1 - m, by omega, rfl⟩
          have HN := Lib.hid hn
          have hnl : n < row.length := by omega
          obtain ⟨b4, o4, ha4, k4⟩ := HROW.out n hnl
          have k4 := cell_keep hb3.out (cell_keep hbw.out (cell_keep HB2.out k4))
          have hc := cell_keep hb3.out hc
          rw [ha4] at hc
          have hge : decide ((0 : Int) ≤ (n : Int)) = true := by rw [decide_eq_true_eq]; omega
          have HTR := Lib.hid (take_rev_succ hlt2)
          rw [hn2] at HTR
          rw [hn]
          clear hn hn2 ha4
          have hlr : (row.reverse.take m).length ≤ 12 := by simp; omega
          have hsb := hb3.out.size
          go_wp2_with (at_builtin; refine wpList_app_int rfl (.tmp 42) (.tmp 50) rfl wo.heap.size _ _ (row.reverse.take m) [gi row n] rfl rfl (ho3.out.alloc _) (SI_one _ _ _) (by simp; omega) (by simp; omega) ?_)
          intro va wa hoa hga _
          have hba : Below wo.heap.size wo wa := (hb3.out.alloc hsb _).grown hga (by simp; omega) (fun k hk => (World.ownsRow.lt ho3.out k hk).1)
          rw [← HTR.out] at hoa
          have HO := Lib.hid hoa
          have HBA := Lib.hid hba
          clear hoa hba hga
          go_wp2_with fail
          go_roundw
          case rel => exact ⟨m + 1, by omega, by first | (have := HN.out; rw [show (row.length : Int) - 1 - ((m + 1 : Nat) : Int) = (n : Int) - 1 by omega]) | go_num, HBA, HO⟩
          case measure => simp [intOf]
        · obtain ⟨z, hz, hz2⟩ : ∃ z : Int, (row.length : Int) - 1 - m = z ∧ z < 0 := ⟨_, rfl, by omega⟩
          have hge : decide ((0 : Int) ≤ z) = false := by rw [decide_eq_false_iff_not]; omega
          have ho3' := ho3.out
          rw [List.take_of_length_le (by simp; omega)] at ho3'
          obtain ⟨ar, cr, er⟩ := SI_form ho3'.si
          rw [List.length_reverse] at er
          rw [er] at ho3' ⊢
          have HO3 := Lib.hid (ho3'.mono hbw.out.size)
          rw [hz]
          clear hz hz2 er ho3'
          have hsb := hb3.out.size
          have hsw := hbw.out.size
          have hlt3 : ((p.map List.reverse).take k).length ≤ 32 := by simp; omega
          have HT3 := Lib.hid (how.out.below hb3.out)
          go_wp2_with (at_builtin; refine wpList_app_row rfl (.tmp 52) (.tmp 54) rfl w2.heap.size _ _ _ row.reverse 23 rfl rfl HT3.out HO3.out rfl (by omega) (by omega) ?_)
          intro tq wq hot hgr hlb
          have hbt : Below w2.heap.size w2 wq := (hbw.out.trans (((hb3.out.mono hsw).alloc (by omega) _))).grown hgr (by simp; omega) hlb
          rw [← HTS.out] at hot
          have HOT := Lib.hid hot
          have HBT := Lib.hid hbt
          clear hot hbt hgr hlb
          go_wp2_with fail
          go_roundw
          case rel => exact ⟨k + 1, by omega, by go_num, HBT, HOT⟩
          case measure => simp [intOf]; omega
    · have hkp : k = p.length := by omega
      subst hkp
      have hot := how.out
      rw [List.take_of_length_le (by simp)] at hot
      have HQ := Lib.hid hot.ss
      have HB3 := Lib.hid (ext_trans HB2.out hbw.out)
      clear hot how
      go_wp2_with fail
      go_loopw [9, 10] (fun r i w3 => ∃ m : Nat, m ≤ l.length ∧ i = .int .i64 ((l.length : Int) - 1 - m) ∧ Hid (Below wo.heap.size wo w3) ∧ Hid (OwnI w3 wo.heap.size r (l.reverse.take m))) (fun _ i _ => (intOf i + 1).toNat)
      case atStart => exact ⟨0, Nat.zero_le _, by go_num, Below.refl _ _, OwnI_nil _ _⟩
      case round =>
        obtain ⟨m, hm, rfl, hb3, ho3⟩ := hrel
        by_cases hlt2 : m < l.length
        · obtain ⟨n, hn, hn2⟩ : ∃ n : Nat, (l.length : Int) - 1 - m = (n : Int) ∧ l.length - 1 - m = n := ⟨l.length - 1 - m, by omega, rfl⟩
          have HN := Lib.hid hn
          have hnl : n < l.length := by omega
          obtain ⟨b4, o4, ha4, k4⟩ := G3.out n hnl
          have k4 := cell_keep hb3.out (cell_keep HB3.out k4)
          have hge : decide ((0 : Int) ≤ (n : Int)) = true := by rw [decide_eq_true_eq]; omega
          have HTR := Lib.hid (take_rev_succ hlt2)
          rw [hn2] at HTR
          rw [hn, ha4]
          clear hn hn2 ha4
          have hlr : (l.reverse.take m).length ≤ 32 := by simp; omega
          have hsb := hb3.out.size
          go_wp2_with (at_builtin; refine wpList_app_int rfl (.tmp 63) (.tmp 68) rfl wo.heap.size _ _ (l.reverse.take m) [gi l n] rfl rfl (ho3.out.alloc _) (SI_one _ _ _) (by simp; omega) (by simp; omega) ?_)
          intro va wa hoa hga _
          have hba : Below wo.heap.size wo wa := (hb3.out.alloc hsb _).grown hga (by simp; omega) (fun k hk => (World.ownsRow.lt ho3.out k hk).1)
          rw [← HTR.out] at hoa
          have HO := Lib.hid hoa
          have HBA := Lib.hid hba
          clear hoa hba hga
          go_wp2_with fail
          go_roundw
          case rel => exact ⟨m + 1, by omega, by first | (have := HN.out; rw [show (l.length : Int) - 1 - ((m + 1 : Nat) : Int) = (n : Int) - 1 by omega]) | go_num, HBA, HO⟩
          case measure => simp [intOf]
        · obtain ⟨z, hz, hz2⟩ : ∃ z : Int, (l.length : Int) - 1 - m = z ∧ z < 0 := ⟨_, rfl, by omega⟩
          have hge : decide ((0 : Int) ≤ z) = false := by rw [decide_eq_false_iff_not]; omega
          have ho3' := ho3.out
          rw [List.take_of_length_le (by simp; omega)] at ho3'
          have HR := Lib.hid ho3'.si
          have HB4 := Lib.hid (ext_trans HB3.out hb3.out)
          have HQ4 := Lib.hid (HQ.out.keep hb3.out)
          rw [hz]
          clear hz hz2 ho3' ho3
          go_wp2_with fail
          refine (Makespan_any _ _ p l _ (H.out.keep HB4.out) (G.out.keep HB4.out)).mono ?_
          rintro e w5 ⟨rfl, hb⟩
          have HB5 := Lib.hid (ext_trans HB4.out hb)
          have HQ5 := Lib.hid (HQ4.out.keep hb)
          have HR5 := Lib.hid (HR.out.keep hb)
          clear hb
          go_wp2_with fail
          refine (Makespan_any _ _ (p.map List.reverse) l.reverse _ HQ5.out HR5.out).mono ?_
          rintro e w6 ⟨rfl, hb⟩
          have HB6 := Lib.hid (ext_trans HB5.out hb)
          clear hb
          rw [(span_rev HW.out).1, (span_rev HW.out).2]
          have e1 : (spanV p l == spanV p l) = true := by simp
          have e2 : (finishE p l == finishE p l) = true := by simp
          go_wp2_with fail
          refine (awake_any _).mono ?_
          rintro e w7 ⟨rfl, hb⟩
          go_wp2_with fail
          go_ret
          exact law_of rfl HB6.out hb
end Go.Proofs.Ytijapbfkpmphpaa
