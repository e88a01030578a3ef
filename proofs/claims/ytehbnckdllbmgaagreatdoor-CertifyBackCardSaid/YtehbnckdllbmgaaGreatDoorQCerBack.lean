/- The law CertifyBack. -/
import Derived.Test.YtehbnckdllbmgaaGreatDoorCerLP
import Derived.Test.YtehbnckdllbmgaaGreatDoorCerW
namespace Go.Proofs.YtehbnckdllbmgaaGreatDoor
open Go.RowKit

theorem fit_take {L : List Cut} {k : Nat} (h : k < L.length) : (L.take (k + 1)).all fitC = ((L.take k).all fitC && fitC (ci L k)) := by
  have e : L.take (k + 1) = L.take k ++ [L[k]] := by rw [List.take_add_one, List.getElem?_eq_getElem h]; rfl
  rw [e, List.all_append, List.all_cons, List.all_nil, Bool.and_true, ci_lt h]
def fitJ (c : Cut) (j : Nat) : Bool := okN c.2 && (c.1.take j).all okN
theorem fitJ_succ {c : Cut} {j : Nat} (h : j < c.1.length) : fitJ c (j + 1) = (fitJ c j && okN (gi c.1 j)) := by
  unfold fitJ
  have e : c.1.take (j + 1) = c.1.take j ++ [c.1[j]] := by rw [List.take_add_one, List.getElem?_eq_getElem h]; rfl
  rw [e, List.all_append, List.all_cons, List.all_nil, Bool.and_true, gi_lt h, Bool.and_assoc]
theorem fitJ_end (c : Cut) : fitJ c c.1.length = fitC c := by unfold fitJ fitC; rw [List.take_length]
theorem fitJ_zero (c : Cut) : fitJ c 0 = okN c.2 := by unfold fitJ; simp

set_option maxHeartbeats 4000000 in
set_option maxRecDepth 100000 in
theorem Back_any (v : Value) (L : List Cut) (s : ByteArray) (w : World) (h : SC w v L) (h64 : ∀ c ∈ L, in64C c) (hV : VarsC w) :
    Calls Tryz.prog 11 #[v, .string s] w (Ret w (.bool true)) := by
  have HV := Lib.hid hV; have H := Lib.hid h; have H64 := Lib.hid h64
  have HA : Hid (∀ W, Below w.heap.size w W → Calls Tryz.prog 14 #[] W (Ret W (.bool true))) := Lib.hid fun W hW => awake_any W (HV.out.keep hW)
  obtain ⟨a, cap, rfl, h1, h2, h3⟩ := h
  have H3 := Lib.hid h3
  clear h3 h64 hV
  have hm : L.length ≤ 9223372036854775807 := by unfold maxLen at h2; omega
  go_enter Tryz.func11, Tryz.ntmps11
  go_wp2_with fail
  refine (Few_any _ L w H.out).mono ?_
  rintro e w1 ⟨rfl, m1, rfl⟩
  have HB1 := Lib.hid (below_drewN' (Below.refl w.heap.size w) m1)
  by_cases hf : fewB L = true
  rotate_left
  · have hf' : fewB L = false := by simpa using hf
    rw [hf']
    go_wp2_with fail
    refine (HA.out _ HB1.out).mono ?_
    rintro e w2 ⟨rfl, hb⟩
    have HB2 := Lib.hid (ext_trans HB1.out hb)
    clear hb
    go_wp2_with fail
    go_ret
    exact ⟨rfl, HB2.out⟩
  rw [hf]
  by_cases hsz : 3000 < s.size
  · have b2 : decide ((3000 : Int) < s.size) = true := by rw [decide_eq_true_eq]; omega
    clear hf
    go_wp2_with fail
    refine (HA.out _ HB1.out).mono ?_
    rintro e w2 ⟨rfl, hb⟩
    have HB2 := Lib.hid (ext_trans HB1.out hb)
    clear hb
    go_wp2_with fail
    go_ret
    exact ⟨rfl, HB2.out⟩
  have b2 : decide ((3000 : Int) < s.size) = false := by rw [decide_eq_false_iff_not]; omega
  have HF := Lib.hid hf
  have HZ := Lib.hid hsz
  clear hf hsz
  go_wp2_with fail
  go_loopw [5, 6, 7] (fun f i _ wr => ∃ k : Nat, k ≤ L.length ∧ f = .bool ((L.take k).all fitC) ∧ i = .int .i64 k ∧ (∃ m, wr = w.drewN m)) (fun _ i _ _ => L.length - (intOf i).toNat)
  case atStart => exact ⟨0, Nat.zero_le _, rfl, rfl, ⟨_, rfl⟩⟩
  case round =>
    obtain ⟨k, hk, rfl, rfl, ⟨m, rfl⟩⟩ := hrel
    by_cases hlt : k < L.length
    · obtain ⟨b, off, u, rfl, hcu⟩ := H3.out k hlt
      obtain ⟨c0, c1, hs⟩ := hcu
      have HT := Lib.hid (fit_take hlt)
      obtain ⟨c, hc⟩ : ∃ c, c = ci L k := ⟨_, rfl⟩
      rw [← hc] at c1 hs HT
      clear hc
      obtain ⟨ua, uc, rfl, u1, u2⟩ := hs.sl
      have HS := Lib.hid hs
      have hmc : c.1.length ≤ 9223372036854775807 := by unfold maxLen at u2; omega
      clear hs
      obtain ⟨FF, hFF⟩ : ∃ f, f = (L.take k).all fitC := ⟨_, rfl⟩
      rw [← hFF] at HT ⊢
      clear hFF
      have hxk : (k : Int) < L.length := by omega
      have hxc : (k : Int) < cap := by omega
      have hx0 : (0 : Int) ≤ k := by omega
      obtain ⟨G, hG⟩ : ∃ G : Nat → Bool, G = fun j => FF && fitJ c j := ⟨_, rfl⟩
      have HGS : Hid (∀ j, j < c.1.length → G (j + 1) = (G j && okN (gi c.1 j))) := Lib.hid fun j hj => by rw [hG]; dsimp only; rw [fitJ_succ hj, Bool.and_assoc]
      have HGE : Hid (G c.1.length = (L.take (k + 1)).all fitC) := Lib.hid (by rw [hG]; dsimp only; rw [fitJ_end, HT.out])
      obtain ⟨g, hg⟩ : ∃ g, g = (FF && okN c.2) := ⟨_, rfl⟩
      have H0 : Hid (g = G 0) := Lib.hid (by rw [hG]; dsimp only; rw [fitJ_zero, hg])
      clear hG
      have HC : Hid (∀ Q : Prop, (FF = false → g = false → Q) → (FF = true → decide (0 ≤ c.2) = false → g = false → Q) → (FF = true → decide (0 ≤ c.2) = true → decide (c.2 ≤ 1099511627776) = false → g = false → Q) →
          (FF = true → decide (0 ≤ c.2) = true → decide (c.2 ≤ 1099511627776) = true → g = true → Q) → Q) := Lib.hid fun Q q1 q2 q3 q4 => by
        subst hg
        cases FF
        · exact q1 rfl rfl
        · cases e1 : decide (0 ≤ c.2)
          · exact q2 rfl e1 (by unfold okN; rw [e1]; rfl)
          · cases e2 : decide (c.2 ≤ 1099511627776)
            · exact q3 rfl e1 e2 (by unfold okN; rw [e1, e2]; rfl)
            · exact q4 rfl e1 e2 (by unfold okN; rw [e1, e2]; rfl)
      clear hg
      refine HC.out _ (fun q0 q1' => ?_) (fun q0 q2 q1' => ?_) (fun q0 q2 q3 q1' => ?_) (fun q0 q2 q3 q1' => ?_)
      all_goals
        rw [q0]
        rw [q1'] at H0
        clear HC q0 q1' HT
        go_wp2_with fail
        go_loopw [5, 7] (fun f i wr => ∃ j : Nat, j ≤ c.1.length ∧ i = .int .i64 j ∧ f = .bool (G j) ∧ (∃ m, wr = w.drewN m)) (fun _ i _ => c.1.length - (intOf i).toNat)
        case atStart => exact ⟨0, Nat.zero_le _, rfl, congrArg Value.bool H0.out, ⟨_, rfl⟩⟩
        case round =>
          obtain ⟨j, hj, rfl, rfl, ⟨m', rfl⟩⟩ := hrel
          by_cases hlt2 : j < c.1.length
          · obtain ⟨_, _, hue, u1, u2, u3⟩ := HS.out
            simp only [Value.slice.injEq] at hue
            obtain ⟨rfl, _, rfl⟩ := hue
            obtain ⟨sb, so, rfl, cx⟩ := u3 j hlt2
            clear u3
            replace cx : w.cell? ⟨sb, so + j, none⟩ = some (.int .i64 (gi c.1 j)) := cx
            have hxj : (j : Int) < c.1.length := by omega
            have hxj2 : (j : Int) < uc := by omega
            have hj0 : (0 : Int) ≤ j := by omega
            have HN := Lib.hid (HGS.out j hlt2)
            generalize gi c.1 j = x at *
            generalize G j = f1 at *
            have HD : Hid (∀ Q : Prop, (f1 = false → Q) → (f1 = true → decide (0 ≤ x) = false → okN x = false → Q) → (f1 = true → decide (0 ≤ x) = true → decide (x ≤ 1099511627776) = false → okN x = false → Q) →
                (f1 = true → decide (0 ≤ x) = true → decide (x ≤ 1099511627776) = true → okN x = true → Q) → Q) := Lib.hid fun Q q1 q2 q3 q4 => by
              cases f1
              · exact q1 rfl
              · cases e1 : decide (0 ≤ x)
                · exact q2 rfl e1 (by unfold okN; rw [e1]; rfl)
                · cases e2 : decide (x ≤ 1099511627776)
                  · exact q3 rfl e1 e2 (by unfold okN; rw [e1, e2]; rfl)
                  · exact q4 rfl e1 e2 (by unfold okN; rw [e1, e2]; rfl)
            refine HD.out _ (fun p0 => ?_) (fun p0 p1 p2 => ?_) (fun p0 p1 p2 p3 => ?_) (fun p0 p1 p2 p3 => ?_)
            · rw [p0] at HN ⊢
              rw [Bool.false_and] at HN
              clear HD p0
              go_wp2_with fail
              go_roundw
              case rel => exact ⟨j + 1, by omega, by go_num, congrArg Value.bool HN.out.symm, ⟨_, rfl⟩⟩
              case measure => simp [intOf]; omega
            all_goals
              rw [p0] at HN ⊢
              first | rw [p2] at HN; clear p2 | rw [p3] at HN; clear p3
              rw [Bool.true_and] at HN
              clear HD p0
              go_wp2_with fail
              go_roundw
              case rel => exact ⟨j + 1, by omega, by go_num, congrArg Value.bool HN.out.symm, ⟨_, rfl⟩⟩
              case measure => simp [intOf]; omega
          · obtain rfl : j = c.1.length := by omega
            rw [HGE.out]
            go_wp2_with fail
            go_roundw
            case rel => exact ⟨k + 1, by omega, rfl, by go_num, ⟨_, rfl⟩⟩
            case measure => simp [intOf]; omega
    · obtain rfl : k = L.length := by omega
      rw [List.take_length]
      have HB2 := Lib.hid (below_drewN' (Below.refl w.heap.size w) m)
      have hz := few_text HF.out H64.out
      go_wp2_with fail
      refine (Text_any _ L _ (H.out.drewN m) H64.out (fun c hc => by have := few_mem HF.out c hc; omega) (by omega) (HV.out.keep HB2.out)).mono ?_
      rintro e w3 ⟨rfl, hb⟩
      have HB3 := Lib.hid (ext_trans HB2.out hb)
      clear hb
      go_wp2_with fail
      refine (Parse_any (bs (textT L)) w3 (by rw [bs_size]; omega) (HV.out.keep HB3.out)).mono ?_
      rintro e w4 ⟨vp, rfl, hp, hb⟩
      rw [bs_list] at hp ⊢
      have HB4 := Lib.hid (ext_trans HB3.out hb)
      clear hb hz
      have HSP : Hid (∀ W, Below w.heap.size w W → Calls Tryz.prog 25 #[.string s] W (RetP W (parseT s.data.toList))) := Lib.hid fun W hW => Parse_any s W (by have := HZ.out; omega) (HV.out.keep hW)
      have HBT := Lib.hid (back_text s.data.toList)
      have hsl : s.data.toList.length = s.size := by simp
      have HTX : Hid (∀ W v', SC W v' (parseT s.data.toList).1 → (parseT s.data.toList).2.1 = 0 → Below w.heap.size w W → Calls Tryz.prog 27 #[v'] W (Ret W (.string s))) := Lib.hid fun W v' hv h0 hW => by
        obtain ⟨p1, p2, p3⟩ := HBT.out.1 h0
        have h6 : ∀ c ∈ (parseT s.data.toList).1, in64C c := fun c hc => fit_64 (by rw [List.all_eq_true] at p3; exact p3 c hc)
        have := Text_any v' _ W hv h6 (fun c hc => by have := pref_le hc; rw [p2, hsl] at this; have := HZ.out; omega) (by rw [p2, hsl]; have := HZ.out; omega) (HV.out.keep hW)
        rw [p2, bs_of] at this
        exact this
      rw [hsl] at HBT
      clear hsl
      generalize parseT s.data.toList = R at *
      obtain ⟨X, E, T⟩ := R
      dsimp only at HBT HTX
      have hss : (s.toList == s.toList) = true := by rw [beq_iff_eq]
      have HEND : ∀ W, Below w.heap.size w W → Hid (Calls Tryz.prog 25 #[.string s] W (RetP W (X, E, T))) := fun W hW => Lib.hid (HSP.out W hW)
      clear HSP
      have HSE := Lib.hid HEND
      clear HEND
      have HL4 := Lib.hid (H.out.keep HB4.out)
      cases hfit : L.all fitC
      · obtain ⟨tq, hq⟩ := back_unfit (fewB_len HF.out) hfit
        rw [hq] at hp ⊢
        dsimp only at hp ⊢
        obtain ⟨pa, pc, ev, _⟩ := hp
        subst ev
        clear hq hfit
        go_wp2_with fail
        obtain ⟨W, hW⟩ : ∃ W, W = w4 := ⟨_, rfl⟩
        rw [← hW] at HB4 ⊢
        clear hW HL4
        refine (HSE.out W HB4.out).out.mono ?_
        rintro e w6 ⟨vx, rfl, hx, hb⟩
        have HB6 := Lib.hid (ext_trans HB4.out hb)
        have HX := Lib.hid hx
        dsimp only at hx ⊢
        obtain ⟨xa, xc, rfl, _⟩ := hx
        clear hb
        by_cases hE : E = 0
        · have HQ := Lib.hid (HBT.out.1 hE)
          subst hE
          obtain ⟨hT, _, _⟩ := HQ.out
          subst hT
          go_wp2_with fail
          refine (HTX.out _ _ HX.out (by first | trivial | rfl) HB6.out).mono ?_
          rintro e w7 ⟨rfl, hb⟩
          have HB7 := Lib.hid (ext_trans HB6.out hb)
          clear hb
          go_wp2_with fail
          refine (HA.out _ HB7.out).mono ?_
          rintro e w8 ⟨rfl, hb⟩
          have HB8 := Lib.hid (ext_trans HB7.out hb)
          clear hb
          go_wp2_with fail
          go_ret
          exact ⟨rfl, HB8.out⟩
        · obtain ⟨hX, hT0, hT1⟩ := HBT.out.2 hE
          subst hX
          have y0 : (E != 0) = true := by rw [bne_iff_ne]; exact hE
          have y1 : decide (0 ≤ T) = true := by rw [decide_eq_true_eq]; exact hT0
          have y2 : decide (T < (s.size : Int)) = true := by rw [decide_eq_true_eq]; exact hT1
          go_wp2_with fail
          refine (HA.out _ HB6.out).mono ?_
          rintro e w8 ⟨rfl, hb⟩
          have HB8 := Lib.hid (ext_trans HB6.out hb)
          clear hb
          go_wp2_with fail
          go_ret
          exact ⟨rfl, HB8.out⟩
      · rw [back_fit (fewB_len HF.out) hfit] at hp ⊢
        have HP := Lib.hid hp
        dsimp only at hp ⊢
        obtain ⟨pa, pc, ev, _⟩ := hp
        subst ev
        clear hfit
        go_wp2_with fail
        refine (Same_any _ _ L L w4 HP.out HL4.out).mono ?_
        rintro e w5 ⟨rfl, m5, rfl⟩
        rw [show decide (L = L) = true from decide_eq_true rfl]
        have HB5 := Lib.hid (below_drewN' HB4.out m5)
        go_wp2_with fail
        refine (HSE.out _ HB5.out).out.mono ?_
        clear HL4 HB4
        have HB4 := HB5
        clear HB5
        rintro e w6 ⟨vx, rfl, hx, hb⟩
        have HB6 := Lib.hid (ext_trans HB4.out hb)
        have HX := Lib.hid hx
        dsimp only at hx ⊢
        obtain ⟨xa, xc, rfl, _⟩ := hx
        clear hb
        by_cases hE : E = 0
        · have HQ := Lib.hid (HBT.out.1 hE)
          subst hE
          obtain ⟨hT, _, _⟩ := HQ.out
          subst hT
          go_wp2_with fail
          refine (HTX.out _ _ HX.out (by first | trivial | rfl) HB6.out).mono ?_
          rintro e w7 ⟨rfl, hb⟩
          have HB7 := Lib.hid (ext_trans HB6.out hb)
          clear hb
          go_wp2_with fail
          refine (HA.out _ HB7.out).mono ?_
          rintro e w8 ⟨rfl, hb⟩
          have HB8 := Lib.hid (ext_trans HB7.out hb)
          clear hb
          go_wp2_with fail
          go_ret
          exact ⟨rfl, HB8.out⟩
        · obtain ⟨hX, hT0, hT1⟩ := HBT.out.2 hE
          subst hX
          have y0 : (E != 0) = true := by rw [bne_iff_ne]; exact hE
          have y1 : decide (0 ≤ T) = true := by rw [decide_eq_true_eq]; exact hT0
          have y2 : decide (T < (s.size : Int)) = true := by rw [decide_eq_true_eq]; exact hT1
          go_wp2_with fail
          refine (HA.out _ HB6.out).mono ?_
          rintro e w8 ⟨rfl, hb⟩
          have HB8 := Lib.hid (ext_trans HB6.out hb)
          clear hb
          go_wp2_with fail
          go_ret
          exact ⟨rfl, HB8.out⟩
end Go.Proofs.YtehbnckdllbmgaaGreatDoor
