/- Contract: the merge of two sorted runs of trips of package slices, in place: the general case. -/
import Derived.Test.YtpbmmdoodmbneaaGreatDoorTsD
namespace Go.Proofs.YtpbmmdoodmbneaaGreatDoor
open Go.RowKit

/-- the merge of fewer than d places -/
def SymOKY (T : Int → Trp) (fv : Value) (D : Int → Prop) (c : Int → Int → Int) (B g n cap d : Nat) : Prop := ∀ (w : World) (xs : List Int) (a m b : Int) (a' m' b' : Nat), a = a' → m = m' → b = b' → b' - a' ≤ d →
  OwnY T w B (.slice (some ⟨g, 0, none⟩) n cap) xs → FnCmpY T fv w g D c → (∀ x ∈ xs, D x) → a' < m' → m' < b' → b' ≤ xs.length → SortedOn (ltOf c) xs a' m' → SortedOn (ltOf c) xs m' b' →
  Calls Tryz.prog 67 #[.slice (some ⟨g, 0, none⟩) n cap, .int .i64 a, .int .i64 m, .int .i64 b, fv] w (PostMY T w B g n cap (ltOf c) xs a' b')

theorem rotY_int (T : Int → Trp) (fv : Value) (w : World) (B g n cap : Nat) (xs : List Int) (a m b : Int) (a' m' b' : Nat) (ha : a = a') (hm : m = m') (hb : b = b') (ho : OwnY T w B (.slice (some ⟨g, 0, none⟩) n cap) xs) (h1 : a' < m') (h2 : m' < b') (h3 : b' ≤ xs.length) (hl : xs.length ≤ 100000) :
    Calls Tryz.prog 84 #[.slice (some ⟨g, 0, none⟩) n cap, .int .i64 a, .int .i64 m, .int .i64 b, fv] w (PostWY T w B g n cap (rot xs a' m' b')) := by
  subst ha hm hb
  exact rotY_any T fv w B g n cap xs a' m' b' ho h1 h2 h3 hl

theorem rearr_D {lt : Int → Int → Bool} {D : Int → Prop} {xs ys : List Int} (h : Rearr lt xs ys) (hD : ∀ x ∈ xs, D x) : ∀ x ∈ ys, D x := fun x hx => hD x (h.perm.mem_iff.1 hx)

set_option maxRecDepth 100000 in
set_option maxHeartbeats 8000000 in
theorem symY_step (T : Int → Trp) (fv : Value) (D : Int → Prop) (c : Int → Int → Int) (hO : SWO D (ltOf c)) (w : World) (B g n cap d : Nat) (ih : SymOKY T fv D c B g n cap d) (xs : List Int) (a m b : Nat) (hbd : b - a ≤ d + 1) (ho : OwnY T w B (.slice (some ⟨g, 0, none⟩) n cap) xs)
    (hf : FnCmpY T fv w g D c) (hD : ∀ x ∈ xs, D x) (h1 : a + 1 < m) (h2 : m + 1 < b) (h3 : b ≤ xs.length) (hl : xs.length ≤ 100000) (s1 : SortedOn (ltOf c) xs a m) (s2 : SortedOn (ltOf c) xs m b) :
    Calls Tryz.prog 67 #[.slice (some ⟨g, 0, none⟩) n cap, .int .i64 a, .int .i64 m, .int .i64 b, fv] w (PostMY T w B g n cap (ltOf c) xs a b) := by
  have HFN := Lib.hid hf
  have mxd : Tryz.prog.follows .mixedOrders = true := mixed
  obtain ⟨F, caps, rfl, hcf, hf⟩ := hf
  obtain ⟨rfl, hcap⟩ := ho.form_n
  have IH := Lib.hid ih; clear ih
  have HF := Lib.hid hf; clear hf
  have HO := Lib.hid ho; clear ho
  have HOO := Lib.hid hO; clear hO
  have HDD := Lib.hid hD
  have HD : Hid (∀ k, k < xs.length → D (gi xs k)) := fun k hk => hD _ (gi_mem hk)
  clear hD
  have HS1 := Lib.hid s1; clear s1
  have HS2 := Lib.hid s2; clear s2
  have hb0 : ((m : Int) - (a : Int) == 1) = false := by rw [beq_eq_false_iff_ne]; omega
  have hb1 : ((b : Int) - (m : Int) == 1) = false := by rw [beq_eq_false_iff_ne]; omega
  obtain ⟨mid, hmid, hma, hmb⟩ : ∃ mid : Nat, ((a : Int) + b) / 2 = (mid : Int) ∧ a + a + 1 ≤ mid + mid ∧ mid + mid ≤ a + b ∧ a + b ≤ mid + mid + 1 := ⟨(a + b) / 2, by omega, by omega, by omega, by omega⟩
  obtain ⟨lo, r, hc⟩ : ∃ lo r : Nat, (mid < m ∧ mid + m = lo + b ∧ r = mid) ∨ (m ≤ mid ∧ lo = a ∧ r = m) := by
    rcases Nat.lt_or_ge mid m with h | h
    · exact ⟨mid + m - b, mid, .inl ⟨h, by omega, rfl⟩⟩
    · exact ⟨a, m, .inr ⟨h, rfl, rfl⟩⟩
  have hlo1 : a ≤ lo := by rcases hc with h | h <;> omega
  have hlr : lo ≤ r := by rcases hc with h | h <;> omega
  have hrm : r ≤ m := by rcases hc with h | h <;> omega
  have hrd : r ≤ mid := by rcases hc with h | h <;> omega
  have hlb : mid + m ≤ lo + b := by rcases hc with h | h <;> omega
  have HLO : Hid (∀ s, s = lo → s = a ∨ mid + m - s = b) := fun s hs => by rcases hc with h | h <;> omega
  have HR : Hid (∀ s, s = r → s = m ∨ mid = s) := fun s hs => by rcases hc with h | h <;> omega
  go_enter Tryz.func67, Tryz.ntmps67
  rcases hc with ⟨q1, q2, q3⟩ | ⟨q1, q2, q3⟩
  · have hb2 : decide (mid < m) = true := by rw [decide_eq_true_eq]; omega
    have Q2 := Lib.hid q2
    have Q3 := Lib.hid q3
    clear q1 q2 q3
    go_wp2_with fail
    clear hmid hb2
    go_loopw [20, 21] (fun i j wr => ∃ p q : Nat, lo ≤ p ∧ p ≤ q ∧ q ≤ r ∧ i = .int .i64 p ∧ j = .int .i64 q ∧ Hid (GR w wr) ∧ Hid (∀ h, lo ≤ h → h < p → ltOf c (gi xs (mid + m - 1 - h)) (gi xs h) = false) ∧ Hid (∀ h, q ≤ h → h < r → ltOf c (gi xs (mid + m - 1 - h)) (gi xs h) = true)) (fun i j _ => (intOf j).toNat - (intOf i).toNat)
    case atStart => exact ⟨lo, r, Nat.le_refl _, hlr, Nat.le_refl _, by congr 1; have := Q2.out; omega, by congr 1; have := Q3.out; omega, GR.refl _, fun h h1 h2 => by omega, fun h h1 h2 => by omega⟩
    case round =>
      obtain ⟨p, q, hp, hpq, hq, rfl, rfl, hw, hd, hu⟩ := hrel
      clear Q2 Q3
      by_cases hlt : p < q
      · obtain ⟨h, hh, hh1, hh2⟩ : ∃ h : Nat, ((p : Int) + q) / 2 = (h : Int) ∧ p ≤ h ∧ h < q := ⟨(p + q) / 2, by omega, by omega, by omega⟩
        obtain ⟨k, hk, hk0, hk1, hk2⟩ : ∃ k : Nat, (mid : Int) + m - 1 - h = (k : Int) ∧ mid + m - 1 - h = k ∧ m ≤ k ∧ k < b := ⟨mid + m - 1 - h, by omega, by omega, by omega, by omega⟩
        have hhx : h < xs.length := by omega
        have hkx : k < xs.length := by omega
        obtain ⟨a0, a1, a2, a3⟩ := ((HO.out.gr hw.out).cellg hhx).xg
        obtain ⟨b0, b1, b2, b3⟩ := ((HO.out.gr hw.out).cellg hkx).xg
        have i1 : (h : Int) < xs.length := by omega
        have i2 : (h : Int) < cap := by omega
        have i3 : (k : Int) < xs.length := by omega
        have i4 : (k : Int) < cap := by omega
        have HCC : Hid (∀ w', w.grownBy w' (some g) → Calls Tryz.prog F (#[.agg #[.string (bs (T (gi xs k)).item), .string (bs (T (gi xs k)).truck), .int .i64 (T (gi xs k)).start, .int .i64 (T (gi xs k)).fin], .agg #[.string (bs (T (gi xs h)).item), .string (bs (T (gi xs h)).truck), .int .i64 (T (gi xs h)).start, .int .i64 (T (gi xs h)).fin]] ++ caps) w' fun e w'' => e = .returned (.int .i64 (c (gi xs k) (gi xs h))) ∧ GR w' w'') := fun w' hg => HF.out (gi xs k) (gi xs h) w' (HD.out k hkx) (HD.out h hhx) hg
        have e1 : IntKind.i64.wrap ((mid : Int) + m - 1 - h) = (k : Int) := by rw [IntWalk.i64_in _ (by omega)]; exact hk
        have e2 : IntKind.i64.wrap (k : Int) = (k : Int) := IntWalk.i64_in _ (by omega)
        cases hl2 : ltOf c (gi xs k) (gi xs h)
        · have hcb : decide (c (gi xs k) (gi xs h) < 0) = false := hl2
          have HU : Hid (∀ h', lo ≤ h' → h' < h + 1 → ltOf c (gi xs (mid + m - 1 - h')) (gi xs h') = false) := fun h' g1 g4 => s3_down HOO.out HD.out h3 HS1.out HS2.out (by omega) (show h' ≤ h by omega) (by omega) (by omega) (by omega) (by omega) (by rw [hk0]; exact hl2)
          clear hl2 hk0
          go_wp2_with fail
          clear hh
          go_quiet_grown (exact Calls.grown_of (HCC.out _ (grownBy_gr (World.grownBy.refl _ _) (hw.out.trans (gr_of _ _ _)))))
          clear hk e1 e2
          go_wp2_with fail
          go_roundw
          case rel => exact ⟨h + 1, q, by omega, by omega, hq, by go_num, rfl, hw.out.trans (gr_of _ _ _), HU, hu⟩
          case measure => simp [intOf]; omega
        · have hcb : decide (c (gi xs k) (gi xs h) < 0) = true := hl2
          have HU : Hid (∀ h', h ≤ h' → h' < r → ltOf c (gi xs (mid + m - 1 - h')) (gi xs h') = true) := fun h' g1 g4 => s3_up HOO.out HD.out h3 HS1.out HS2.out (show a ≤ h by omega) g1 (by omega) (by omega) (by omega) (by omega) (by rw [hk0]; exact hl2)
          clear hl2 hk0
          go_wp2_with fail
          clear hh
          go_quiet_grown (exact Calls.grown_of (HCC.out _ (grownBy_gr (World.grownBy.refl _ _) (hw.out.trans (gr_of _ _ _)))))
          clear hk e1 e2
          go_wp2_with fail
          go_roundw
          case rel => exact ⟨p, h, hp, by omega, by omega, rfl, rfl, hw.out.trans (gr_of _ _ _), hd, HU⟩
          case measure => simp [intOf]; omega
      · obtain rfl : p = q := by omega
        have hpm : p ≤ m := by omega
        have hpd : p ≤ mid := by omega
        obtain ⟨e, he, he0, he1, he2⟩ : ∃ e : Nat, (mid : Int) + m - p = (e : Int) ∧ mid + m - p = e ∧ m ≤ e ∧ e ≤ b := ⟨mid + m - p, by omega, rfl, by omega, by omega⟩
        have hde : mid ≤ e := by omega
        have HH : Hid (Halves (ltOf c) xs (rot xs p m e) a p mid e b) := by
          have := halves (s := p) (mid := mid) HOO.out HD.out h3 HS1.out HS2.out hp hq (by omega) (by omega) (by omega) hpm hpd (by omega) (by omega) (HLO.out p) (HR.out p) hd.out hu.out
          rw [he0] at this
          exact this
        have HZ : Hid ((rot xs p m e).length = xs.length) := rot_length _ _ _ _
        clear hd hu he0 hlt
        by_cases c1 : p < m ∧ m < e
        · have d1 : decide (p < m) = true := by rw [decide_eq_true_eq]; omega
          have d2 : decide (m < e) = true := by rw [decide_eq_true_eq]; omega
          go_wp2_with fail
          clear he d1 d2
          refine (rotY_int T _ _ B g xs.length cap xs _ _ _ p m e rfl rfl (by first | rfl | omega) (HO.out.gr hw.out) c1.1 c1.2 (by omega) hl).mono ?_
          rintro e1 w1 ⟨rfl, hg1, ho1⟩
          have HG1 := Lib.hid (grownBy_trans (grownBy_gr (World.grownBy.refl w (some g)) hw.out) hg1)
          have HO1 := Lib.hid ho1
          clear hg1 ho1
          by_cases c2 : a < p ∧ p < mid
          · have d3 : decide (a < p) = true := by rw [decide_eq_true_eq]; omega
            have d4 : decide (p < mid) = true := by rw [decide_eq_true_eq]; omega
            go_wp2_with fail
            clear d3 d4
            refine (IH.out _ (rot xs p m e) _ _ _ a p mid rfl rfl rfl (by omega) HO1.out (HFN.out.later HG1.out) (rearr_D HH.out.re HDD.out) c2.1 c2.2 (by have := HZ.out; omega) HH.out.s1 HH.out.s2).mono ?_
            rintro e2 w2 ⟨rfl, hg2, z1, ho2, hm2⟩
            have HG2 := Lib.hid (grownBy_trans HG1.out hg2)
            have HO2 := Lib.hid ho2
            have HM2 := Lib.hid hm2
            clear hg2 ho2 hm2
            have HZ2 : Hid (z1.length = xs.length) := by have := HM2.out.out.1; have := HZ.out; show _ = _; omega
            by_cases c3 : mid < e ∧ e < b
            · have d5 : decide (mid < e) = true := by rw [decide_eq_true_eq]; omega
              have d6 : decide (e < b) = true := by rw [decide_eq_true_eq]; omega
              go_wp2_with fail
              clear d5 d6
              have HHZ : Hid (Halves (ltOf c) xs (rot xs p m e) a p mid e b) := HH.out
              refine (IH.out _ z1 _ _ _ mid e b (by first | rfl | omega) (by first | rfl | omega) (by first | rfl | omega) (by omega) HO2.out (HFN.out.later HG2.out) (rearr_D (HHZ.out.re.trans HM2.out.re) HDD.out) c3.1 c3.2 (by have := HZ2.out; omega) (sorted_same HHZ.out.s3 HM2.out.out (.inr (Nat.le_refl _))) (sorted_same HHZ.out.s4 HM2.out.out (.inr hde))).mono ?_
              rintro e3 w3 ⟨rfl, hg3, z2, ho3, hm3⟩
              have HG3 := Lib.hid (grownBy_trans HG2.out hg3)
              have HO3 := Lib.hid ho3
              have HM3 := Lib.hid hm3
              clear hg3 ho3 hm3
              go_wp2_with fail
              refine bodyPost_end (results_none Tryz.results67 _ _ _) rfl ?_
              exact ⟨rfl, HG3.out, z2, HO3.out, merge_done HHZ.out (by omega) (by omega) h3 HM2.out HM3.out⟩
            · have HHZ : Hid (Halves (ltOf c) xs (rot xs p m e) a p mid e b) := HH.out
              have HM3 : Hid (Merged (ltOf c) z1 z1 mid b) := merged_refl (sorted_join (sorted_same HHZ.out.s3 HM2.out.out (.inr (Nat.le_refl _))) (sorted_same HHZ.out.s4 HM2.out.out (.inr hde)) (by omega))
              obtain ⟨b5, b6, hb5x, hb6x⟩ : ∃ b1 b2 : Bool, decide (mid < e) = b1 ∧ decide (e < b) = b2 := ⟨_, _, rfl, rfl⟩
              have d5 : (b5 && b6) = false := by rw [← hb5x, ← hb6x, Bool.and_eq_false_iff, decide_eq_false_iff_not, decide_eq_false_iff_not]; omega
              cases b5
              · go_wp2_with fail
                refine bodyPost_end (results_none Tryz.results67 _ _ _) rfl ?_
                exact ⟨rfl, HG2.out, z1, HO2.out, merge_done HHZ.out (by omega) (by omega) h3 HM2.out HM3.out⟩
              · cases b6
                · go_wp2_with fail
                  refine bodyPost_end (results_none Tryz.results67 _ _ _) rfl ?_
                  exact ⟨rfl, HG2.out, z1, HO2.out, merge_done HHZ.out (by omega) (by omega) h3 HM2.out HM3.out⟩
                · cases d5
          · have HM2 : Hid (Merged (ltOf c) (rot xs p m e) (rot xs p m e) a mid) := merged_refl (sorted_join HH.out.s1 HH.out.s2 (by omega))
            have HG2 := HG1
            have HO2 := HO1
            obtain ⟨b3, b4, hb3x, hb4x⟩ : ∃ b1 b2 : Bool, decide (a < p) = b1 ∧ decide (p < mid) = b2 := ⟨_, _, rfl, rfl⟩
            have d3 : (b3 && b4) = false := by rw [← hb3x, ← hb4x, Bool.and_eq_false_iff, decide_eq_false_iff_not, decide_eq_false_iff_not]; omega
            generalize hz1 : rot xs p m e = z1 at HM2 HO2
            have HZ1 := Lib.hid hz1
            clear hz1
            cases b3
            · clear d3
              have HZ2 : Hid (z1.length = xs.length) := by have := HM2.out.out.1; have := HZ.out; show _ = _; rw [HZ1.out] at *; omega
              by_cases c3 : mid < e ∧ e < b
              · have d5 : decide (mid < e) = true := by rw [decide_eq_true_eq]; omega
                have d6 : decide (e < b) = true := by rw [decide_eq_true_eq]; omega
                go_wp2_with fail
                clear d5 d6
                have HHZ : Hid (Halves (ltOf c) xs (rot xs p m e) a p mid e b) := HH.out
                rw [HZ1.out] at HHZ
                refine (IH.out _ z1 _ _ _ mid e b (by first | rfl | omega) (by first | rfl | omega) (by first | rfl | omega) (by omega) HO2.out (HFN.out.later HG2.out) (rearr_D (HHZ.out.re.trans HM2.out.re) HDD.out) c3.1 c3.2 (by have := HZ2.out; omega) (sorted_same HHZ.out.s3 HM2.out.out (.inr (Nat.le_refl _))) (sorted_same HHZ.out.s4 HM2.out.out (.inr hde))).mono ?_
                rintro e3 w3 ⟨rfl, hg3, z2, ho3, hm3⟩
                have HG3 := Lib.hid (grownBy_trans HG2.out hg3)
                have HO3 := Lib.hid ho3
                have HM3 := Lib.hid hm3
                clear hg3 ho3 hm3
                go_wp2_with fail
                refine bodyPost_end (results_none Tryz.results67 _ _ _) rfl ?_
                exact ⟨rfl, HG3.out, z2, HO3.out, merge_done HHZ.out (by omega) (by omega) h3 HM2.out HM3.out⟩
              · have HHZ : Hid (Halves (ltOf c) xs (rot xs p m e) a p mid e b) := HH.out
                rw [HZ1.out] at HHZ
                have HM3 : Hid (Merged (ltOf c) z1 z1 mid b) := merged_refl (sorted_join (sorted_same HHZ.out.s3 HM2.out.out (.inr (Nat.le_refl _))) (sorted_same HHZ.out.s4 HM2.out.out (.inr hde)) (by omega))
                obtain ⟨b5, b6, hb5x, hb6x⟩ : ∃ b1 b2 : Bool, decide (mid < e) = b1 ∧ decide (e < b) = b2 := ⟨_, _, rfl, rfl⟩
                have d5 : (b5 && b6) = false := by rw [← hb5x, ← hb6x, Bool.and_eq_false_iff, decide_eq_false_iff_not, decide_eq_false_iff_not]; omega
                cases b5
                · go_wp2_with fail
                  refine bodyPost_end (results_none Tryz.results67 _ _ _) rfl ?_
                  exact ⟨rfl, HG2.out, z1, HO2.out, merge_done HHZ.out (by omega) (by omega) h3 HM2.out HM3.out⟩
                · cases b6
                  · go_wp2_with fail
                    refine bodyPost_end (results_none Tryz.results67 _ _ _) rfl ?_
                    exact ⟨rfl, HG2.out, z1, HO2.out, merge_done HHZ.out (by omega) (by omega) h3 HM2.out HM3.out⟩
                  · cases d5
            · cases b4
              · clear d3
                have HZ2 : Hid (z1.length = xs.length) := by have := HM2.out.out.1; have := HZ.out; show _ = _; rw [HZ1.out] at *; omega
                by_cases c3 : mid < e ∧ e < b
                · have d5 : decide (mid < e) = true := by rw [decide_eq_true_eq]; omega
                  have d6 : decide (e < b) = true := by rw [decide_eq_true_eq]; omega
                  go_wp2_with fail
                  clear d5 d6
                  have HHZ : Hid (Halves (ltOf c) xs (rot xs p m e) a p mid e b) := HH.out
                  rw [HZ1.out] at HHZ
                  refine (IH.out _ z1 _ _ _ mid e b (by first | rfl | omega) (by first | rfl | omega) (by first | rfl | omega) (by omega) HO2.out (HFN.out.later HG2.out) (rearr_D (HHZ.out.re.trans HM2.out.re) HDD.out) c3.1 c3.2 (by have := HZ2.out; omega) (sorted_same HHZ.out.s3 HM2.out.out (.inr (Nat.le_refl _))) (sorted_same HHZ.out.s4 HM2.out.out (.inr hde))).mono ?_
                  rintro e3 w3 ⟨rfl, hg3, z2, ho3, hm3⟩
                  have HG3 := Lib.hid (grownBy_trans HG2.out hg3)
                  have HO3 := Lib.hid ho3
                  have HM3 := Lib.hid hm3
                  clear hg3 ho3 hm3
                  go_wp2_with fail
                  refine bodyPost_end (results_none Tryz.results67 _ _ _) rfl ?_
                  exact ⟨rfl, HG3.out, z2, HO3.out, merge_done HHZ.out (by omega) (by omega) h3 HM2.out HM3.out⟩
                · have HHZ : Hid (Halves (ltOf c) xs (rot xs p m e) a p mid e b) := HH.out
                  rw [HZ1.out] at HHZ
                  have HM3 : Hid (Merged (ltOf c) z1 z1 mid b) := merged_refl (sorted_join (sorted_same HHZ.out.s3 HM2.out.out (.inr (Nat.le_refl _))) (sorted_same HHZ.out.s4 HM2.out.out (.inr hde)) (by omega))
                  obtain ⟨b5, b6, hb5x, hb6x⟩ : ∃ b1 b2 : Bool, decide (mid < e) = b1 ∧ decide (e < b) = b2 := ⟨_, _, rfl, rfl⟩
                  have d5 : (b5 && b6) = false := by rw [← hb5x, ← hb6x, Bool.and_eq_false_iff, decide_eq_false_iff_not, decide_eq_false_iff_not]; omega
                  cases b5
                  · go_wp2_with fail
                    refine bodyPost_end (results_none Tryz.results67 _ _ _) rfl ?_
                    exact ⟨rfl, HG2.out, z1, HO2.out, merge_done HHZ.out (by omega) (by omega) h3 HM2.out HM3.out⟩
                  · cases b6
                    · go_wp2_with fail
                      refine bodyPost_end (results_none Tryz.results67 _ _ _) rfl ?_
                      exact ⟨rfl, HG2.out, z1, HO2.out, merge_done HHZ.out (by omega) (by omega) h3 HM2.out HM3.out⟩
                    · cases d5
              · cases d3
        · have hid : rot xs p m e = xs := by
            rcases Nat.eq_or_lt_of_le hpm with h | h
            · subst h; exact rot_nil_left (by omega) (by omega)
            · obtain rfl : m = e := by omega
              exact rot_nil_right (by omega) (by omega)
          have d1 : (decide (p < m) && decide (m < e)) = false := by rw [Bool.and_eq_false_iff, decide_eq_false_iff_not, decide_eq_false_iff_not]; omega
          have HG1 := Lib.hid (grownBy_gr (World.grownBy.refl w (some g)) hw.out)
          have HO1 : Hid (OwnY T wr B (.slice (some ⟨g, 0, none⟩) xs.length cap) (rot xs p m e)) := by rw [hid]; exact HO.out.gr hw.out
          clear hid
          obtain ⟨b1, b2, hb1x, hb2x⟩ : ∃ b1 b2 : Bool, decide (p < m) = b1 ∧ decide (m < e) = b2 := ⟨_, _, rfl, rfl⟩
          rw [hb1x, hb2x] at d1
          cases b1
          · clear d1
            obtain ⟨w1, rfl⟩ : ∃ x : World, x = wr := ⟨_, rfl⟩
            by_cases c2 : a < p ∧ p < mid
            · have d3 : decide (a < p) = true := by rw [decide_eq_true_eq]; omega
              have d4 : decide (p < mid) = true := by rw [decide_eq_true_eq]; omega
              go_wp2_with fail
              clear d3 d4
              refine (IH.out _ (rot xs p m e) _ _ _ a p mid rfl rfl rfl (by omega) HO1.out (HFN.out.later HG1.out) (rearr_D HH.out.re HDD.out) c2.1 c2.2 (by have := HZ.out; omega) HH.out.s1 HH.out.s2).mono ?_
              rintro e2 w2 ⟨rfl, hg2, z1, ho2, hm2⟩
              have HG2 := Lib.hid (grownBy_trans HG1.out hg2)
              have HO2 := Lib.hid ho2
              have HM2 := Lib.hid hm2
              clear hg2 ho2 hm2
              have HZ2 : Hid (z1.length = xs.length) := by have := HM2.out.out.1; have := HZ.out; show _ = _; omega
              by_cases c3 : mid < e ∧ e < b
              · have d5 : decide (mid < e) = true := by rw [decide_eq_true_eq]; omega
                have d6 : decide (e < b) = true := by rw [decide_eq_true_eq]; omega
                go_wp2_with fail
                clear d5 d6
                have HHZ : Hid (Halves (ltOf c) xs (rot xs p m e) a p mid e b) := HH.out
                refine (IH.out _ z1 _ _ _ mid e b (by first | rfl | omega) (by first | rfl | omega) (by first | rfl | omega) (by omega) HO2.out (HFN.out.later HG2.out) (rearr_D (HHZ.out.re.trans HM2.out.re) HDD.out) c3.1 c3.2 (by have := HZ2.out; omega) (sorted_same HHZ.out.s3 HM2.out.out (.inr (Nat.le_refl _))) (sorted_same HHZ.out.s4 HM2.out.out (.inr hde))).mono ?_
                rintro e3 w3 ⟨rfl, hg3, z2, ho3, hm3⟩
                have HG3 := Lib.hid (grownBy_trans HG2.out hg3)
                have HO3 := Lib.hid ho3
                have HM3 := Lib.hid hm3
                clear hg3 ho3 hm3
                go_wp2_with fail
                refine bodyPost_end (results_none Tryz.results67 _ _ _) rfl ?_
                exact ⟨rfl, HG3.out, z2, HO3.out, merge_done HHZ.out (by omega) (by omega) h3 HM2.out HM3.out⟩
              · have HHZ : Hid (Halves (ltOf c) xs (rot xs p m e) a p mid e b) := HH.out
                have HM3 : Hid (Merged (ltOf c) z1 z1 mid b) := merged_refl (sorted_join (sorted_same HHZ.out.s3 HM2.out.out (.inr (Nat.le_refl _))) (sorted_same HHZ.out.s4 HM2.out.out (.inr hde)) (by omega))
                obtain ⟨b5, b6, hb5x, hb6x⟩ : ∃ b1 b2 : Bool, decide (mid < e) = b1 ∧ decide (e < b) = b2 := ⟨_, _, rfl, rfl⟩
                have d5 : (b5 && b6) = false := by rw [← hb5x, ← hb6x, Bool.and_eq_false_iff, decide_eq_false_iff_not, decide_eq_false_iff_not]; omega
                cases b5
                · go_wp2_with fail
                  refine bodyPost_end (results_none Tryz.results67 _ _ _) rfl ?_
                  exact ⟨rfl, HG2.out, z1, HO2.out, merge_done HHZ.out (by omega) (by omega) h3 HM2.out HM3.out⟩
                · cases b6
                  · go_wp2_with fail
                    refine bodyPost_end (results_none Tryz.results67 _ _ _) rfl ?_
                    exact ⟨rfl, HG2.out, z1, HO2.out, merge_done HHZ.out (by omega) (by omega) h3 HM2.out HM3.out⟩
                  · cases d5
            · have HM2 : Hid (Merged (ltOf c) (rot xs p m e) (rot xs p m e) a mid) := merged_refl (sorted_join HH.out.s1 HH.out.s2 (by omega))
              have HG2 := HG1
              have HO2 := HO1
              obtain ⟨b3, b4, hb3x, hb4x⟩ : ∃ b1 b2 : Bool, decide (a < p) = b1 ∧ decide (p < mid) = b2 := ⟨_, _, rfl, rfl⟩
              have d3 : (b3 && b4) = false := by rw [← hb3x, ← hb4x, Bool.and_eq_false_iff, decide_eq_false_iff_not, decide_eq_false_iff_not]; omega
              generalize hz1 : rot xs p m e = z1 at HM2 HO2
              have HZ1 := Lib.hid hz1
              clear hz1
              cases b3
              · clear d3
                have HZ2 : Hid (z1.length = xs.length) := by have := HM2.out.out.1; have := HZ.out; show _ = _; rw [HZ1.out] at *; omega
                by_cases c3 : mid < e ∧ e < b
                · have d5 : decide (mid < e) = true := by rw [decide_eq_true_eq]; omega
                  have d6 : decide (e < b) = true := by rw [decide_eq_true_eq]; omega
                  go_wp2_with fail
                  clear d5 d6
                  have HHZ : Hid (Halves (ltOf c) xs (rot xs p m e) a p mid e b) := HH.out
                  rw [HZ1.out] at HHZ
                  refine (IH.out _ z1 _ _ _ mid e b (by first | rfl | omega) (by first | rfl | omega) (by first | rfl | omega) (by omega) HO2.out (HFN.out.later HG2.out) (rearr_D (HHZ.out.re.trans HM2.out.re) HDD.out) c3.1 c3.2 (by have := HZ2.out; omega) (sorted_same HHZ.out.s3 HM2.out.out (.inr (Nat.le_refl _))) (sorted_same HHZ.out.s4 HM2.out.out (.inr hde))).mono ?_
                  rintro e3 w3 ⟨rfl, hg3, z2, ho3, hm3⟩
                  have HG3 := Lib.hid (grownBy_trans HG2.out hg3)
                  have HO3 := Lib.hid ho3
                  have HM3 := Lib.hid hm3
                  clear hg3 ho3 hm3
                  go_wp2_with fail
                  refine bodyPost_end (results_none Tryz.results67 _ _ _) rfl ?_
                  exact ⟨rfl, HG3.out, z2, HO3.out, merge_done HHZ.out (by omega) (by omega) h3 HM2.out HM3.out⟩
                · have HHZ : Hid (Halves (ltOf c) xs (rot xs p m e) a p mid e b) := HH.out
                  rw [HZ1.out] at HHZ
                  have HM3 : Hid (Merged (ltOf c) z1 z1 mid b) := merged_refl (sorted_join (sorted_same HHZ.out.s3 HM2.out.out (.inr (Nat.le_refl _))) (sorted_same HHZ.out.s4 HM2.out.out (.inr hde)) (by omega))
                  obtain ⟨b5, b6, hb5x, hb6x⟩ : ∃ b1 b2 : Bool, decide (mid < e) = b1 ∧ decide (e < b) = b2 := ⟨_, _, rfl, rfl⟩
                  have d5 : (b5 && b6) = false := by rw [← hb5x, ← hb6x, Bool.and_eq_false_iff, decide_eq_false_iff_not, decide_eq_false_iff_not]; omega
                  cases b5
                  · go_wp2_with fail
                    refine bodyPost_end (results_none Tryz.results67 _ _ _) rfl ?_
                    exact ⟨rfl, HG2.out, z1, HO2.out, merge_done HHZ.out (by omega) (by omega) h3 HM2.out HM3.out⟩
                  · cases b6
                    · go_wp2_with fail
                      refine bodyPost_end (results_none Tryz.results67 _ _ _) rfl ?_
                      exact ⟨rfl, HG2.out, z1, HO2.out, merge_done HHZ.out (by omega) (by omega) h3 HM2.out HM3.out⟩
                    · cases d5
              · cases b4
                · clear d3
                  have HZ2 : Hid (z1.length = xs.length) := by have := HM2.out.out.1; have := HZ.out; show _ = _; rw [HZ1.out] at *; omega
                  by_cases c3 : mid < e ∧ e < b
                  · have d5 : decide (mid < e) = true := by rw [decide_eq_true_eq]; omega
                    have d6 : decide (e < b) = true := by rw [decide_eq_true_eq]; omega
                    go_wp2_with fail
                    clear d5 d6
                    have HHZ : Hid (Halves (ltOf c) xs (rot xs p m e) a p mid e b) := HH.out
                    rw [HZ1.out] at HHZ
                    refine (IH.out _ z1 _ _ _ mid e b (by first | rfl | omega) (by first | rfl | omega) (by first | rfl | omega) (by omega) HO2.out (HFN.out.later HG2.out) (rearr_D (HHZ.out.re.trans HM2.out.re) HDD.out) c3.1 c3.2 (by have := HZ2.out; omega) (sorted_same HHZ.out.s3 HM2.out.out (.inr (Nat.le_refl _))) (sorted_same HHZ.out.s4 HM2.out.out (.inr hde))).mono ?_
                    rintro e3 w3 ⟨rfl, hg3, z2, ho3, hm3⟩
                    have HG3 := Lib.hid (grownBy_trans HG2.out hg3)
                    have HO3 := Lib.hid ho3
                    have HM3 := Lib.hid hm3
                    clear hg3 ho3 hm3
                    go_wp2_with fail
                    refine bodyPost_end (results_none Tryz.results67 _ _ _) rfl ?_
                    exact ⟨rfl, HG3.out, z2, HO3.out, merge_done HHZ.out (by omega) (by omega) h3 HM2.out HM3.out⟩
                  · have HHZ : Hid (Halves (ltOf c) xs (rot xs p m e) a p mid e b) := HH.out
                    rw [HZ1.out] at HHZ
                    have HM3 : Hid (Merged (ltOf c) z1 z1 mid b) := merged_refl (sorted_join (sorted_same HHZ.out.s3 HM2.out.out (.inr (Nat.le_refl _))) (sorted_same HHZ.out.s4 HM2.out.out (.inr hde)) (by omega))
                    obtain ⟨b5, b6, hb5x, hb6x⟩ : ∃ b1 b2 : Bool, decide (mid < e) = b1 ∧ decide (e < b) = b2 := ⟨_, _, rfl, rfl⟩
                    have d5 : (b5 && b6) = false := by rw [← hb5x, ← hb6x, Bool.and_eq_false_iff, decide_eq_false_iff_not, decide_eq_false_iff_not]; omega
                    cases b5
                    · go_wp2_with fail
                      refine bodyPost_end (results_none Tryz.results67 _ _ _) rfl ?_
                      exact ⟨rfl, HG2.out, z1, HO2.out, merge_done HHZ.out (by omega) (by omega) h3 HM2.out HM3.out⟩
                    · cases b6
                      · go_wp2_with fail
                        refine bodyPost_end (results_none Tryz.results67 _ _ _) rfl ?_
                        exact ⟨rfl, HG2.out, z1, HO2.out, merge_done HHZ.out (by omega) (by omega) h3 HM2.out HM3.out⟩
                      · cases d5
                · cases d3
          · cases b2
            · clear d1
              obtain ⟨w1, rfl⟩ : ∃ x : World, x = wr := ⟨_, rfl⟩
              by_cases c2 : a < p ∧ p < mid
              · have d3 : decide (a < p) = true := by rw [decide_eq_true_eq]; omega
                have d4 : decide (p < mid) = true := by rw [decide_eq_true_eq]; omega
                go_wp2_with fail
                clear d3 d4
                refine (IH.out _ (rot xs p m e) _ _ _ a p mid rfl rfl rfl (by omega) HO1.out (HFN.out.later HG1.out) (rearr_D HH.out.re HDD.out) c2.1 c2.2 (by have := HZ.out; omega) HH.out.s1 HH.out.s2).mono ?_
                rintro e2 w2 ⟨rfl, hg2, z1, ho2, hm2⟩
                have HG2 := Lib.hid (grownBy_trans HG1.out hg2)
                have HO2 := Lib.hid ho2
                have HM2 := Lib.hid hm2
                clear hg2 ho2 hm2
                have HZ2 : Hid (z1.length = xs.length) := by have := HM2.out.out.1; have := HZ.out; show _ = _; omega
                by_cases c3 : mid < e ∧ e < b
                · have d5 : decide (mid < e) = true := by rw [decide_eq_true_eq]; omega
                  have d6 : decide (e < b) = true := by rw [decide_eq_true_eq]; omega
                  go_wp2_with fail
                  clear d5 d6
                  have HHZ : Hid (Halves (ltOf c) xs (rot xs p m e) a p mid e b) := HH.out
                  refine (IH.out _ z1 _ _ _ mid e b (by first | rfl | omega) (by first | rfl | omega) (by first | rfl | omega) (by omega) HO2.out (HFN.out.later HG2.out) (rearr_D (HHZ.out.re.trans HM2.out.re) HDD.out) c3.1 c3.2 (by have := HZ2.out; omega) (sorted_same HHZ.out.s3 HM2.out.out (.inr (Nat.le_refl _))) (sorted_same HHZ.out.s4 HM2.out.out (.inr hde))).mono ?_
                  rintro e3 w3 ⟨rfl, hg3, z2, ho3, hm3⟩
                  have HG3 := Lib.hid (grownBy_trans HG2.out hg3)
                  have HO3 := Lib.hid ho3
                  have HM3 := Lib.hid hm3
                  clear hg3 ho3 hm3
                  go_wp2_with fail
                  refine bodyPost_end (results_none Tryz.results67 _ _ _) rfl ?_
                  exact ⟨rfl, HG3.out, z2, HO3.out, merge_done HHZ.out (by omega) (by omega) h3 HM2.out HM3.out⟩
                · have HHZ : Hid (Halves (ltOf c) xs (rot xs p m e) a p mid e b) := HH.out
                  have HM3 : Hid (Merged (ltOf c) z1 z1 mid b) := merged_refl (sorted_join (sorted_same HHZ.out.s3 HM2.out.out (.inr (Nat.le_refl _))) (sorted_same HHZ.out.s4 HM2.out.out (.inr hde)) (by omega))
                  obtain ⟨b5, b6, hb5x, hb6x⟩ : ∃ b1 b2 : Bool, decide (mid < e) = b1 ∧ decide (e < b) = b2 := ⟨_, _, rfl, rfl⟩
                  have d5 : (b5 && b6) = false := by rw [← hb5x, ← hb6x, Bool.and_eq_false_iff, decide_eq_false_iff_not, decide_eq_false_iff_not]; omega
                  cases b5
                  · go_wp2_with fail
                    refine bodyPost_end (results_none Tryz.results67 _ _ _) rfl ?_
                    exact ⟨rfl, HG2.out, z1, HO2.out, merge_done HHZ.out (by omega) (by omega) h3 HM2.out HM3.out⟩
                  · cases b6
                    · go_wp2_with fail
                      refine bodyPost_end (results_none Tryz.results67 _ _ _) rfl ?_
                      exact ⟨rfl, HG2.out, z1, HO2.out, merge_done HHZ.out (by omega) (by omega) h3 HM2.out HM3.out⟩
                    · cases d5
              · have HM2 : Hid (Merged (ltOf c) (rot xs p m e) (rot xs p m e) a mid) := merged_refl (sorted_join HH.out.s1 HH.out.s2 (by omega))
                have HG2 := HG1
                have HO2 := HO1
                obtain ⟨b3, b4, hb3x, hb4x⟩ : ∃ b1 b2 : Bool, decide (a < p) = b1 ∧ decide (p < mid) = b2 := ⟨_, _, rfl, rfl⟩
                have d3 : (b3 && b4) = false := by rw [← hb3x, ← hb4x, Bool.and_eq_false_iff, decide_eq_false_iff_not, decide_eq_false_iff_not]; omega
                generalize hz1 : rot xs p m e = z1 at HM2 HO2
                have HZ1 := Lib.hid hz1
                clear hz1
                cases b3
                · clear d3
                  have HZ2 : Hid (z1.length = xs.length) := by have := HM2.out.out.1; have := HZ.out; show _ = _; rw [HZ1.out] at *; omega
                  by_cases c3 : mid < e ∧ e < b
                  · have d5 : decide (mid < e) = true := by rw [decide_eq_true_eq]; omega
                    have d6 : decide (e < b) = true := by rw [decide_eq_true_eq]; omega
                    go_wp2_with fail
                    clear d5 d6
                    have HHZ : Hid (Halves (ltOf c) xs (rot xs p m e) a p mid e b) := HH.out
                    rw [HZ1.out] at HHZ
                    refine (IH.out _ z1 _ _ _ mid e b (by first | rfl | omega) (by first | rfl | omega) (by first | rfl | omega) (by omega) HO2.out (HFN.out.later HG2.out) (rearr_D (HHZ.out.re.trans HM2.out.re) HDD.out) c3.1 c3.2 (by have := HZ2.out; omega) (sorted_same HHZ.out.s3 HM2.out.out (.inr (Nat.le_refl _))) (sorted_same HHZ.out.s4 HM2.out.out (.inr hde))).mono ?_
                    rintro e3 w3 ⟨rfl, hg3, z2, ho3, hm3⟩
                    have HG3 := Lib.hid (grownBy_trans HG2.out hg3)
                    have HO3 := Lib.hid ho3
                    have HM3 := Lib.hid hm3
                    clear hg3 ho3 hm3
                    go_wp2_with fail
                    refine bodyPost_end (results_none Tryz.results67 _ _ _) rfl ?_
                    exact ⟨rfl, HG3.out, z2, HO3.out, merge_done HHZ.out (by omega) (by omega) h3 HM2.out HM3.out⟩
                  · have HHZ : Hid (Halves (ltOf c) xs (rot xs p m e) a p mid e b) := HH.out
                    rw [HZ1.out] at HHZ
                    have HM3 : Hid (Merged (ltOf c) z1 z1 mid b) := merged_refl (sorted_join (sorted_same HHZ.out.s3 HM2.out.out (.inr (Nat.le_refl _))) (sorted_same HHZ.out.s4 HM2.out.out (.inr hde)) (by omega))
                    obtain ⟨b5, b6, hb5x, hb6x⟩ : ∃ b1 b2 : Bool, decide (mid < e) = b1 ∧ decide (e < b) = b2 := ⟨_, _, rfl, rfl⟩
                    have d5 : (b5 && b6) = false := by rw [← hb5x, ← hb6x, Bool.and_eq_false_iff, decide_eq_false_iff_not, decide_eq_false_iff_not]; omega
                    cases b5
                    · go_wp2_with fail
                      refine bodyPost_end (results_none Tryz.results67 _ _ _) rfl ?_
                      exact ⟨rfl, HG2.out, z1, HO2.out, merge_done HHZ.out (by omega) (by omega) h3 HM2.out HM3.out⟩
                    · cases b6
                      · go_wp2_with fail
                        refine bodyPost_end (results_none Tryz.results67 _ _ _) rfl ?_
                        exact ⟨rfl, HG2.out, z1, HO2.out, merge_done HHZ.out (by omega) (by omega) h3 HM2.out HM3.out⟩
                      · cases d5
                · cases b4
                  · clear d3
                    have HZ2 : Hid (z1.length = xs.length) := by have := HM2.out.out.1; have := HZ.out; show _ = _; rw [HZ1.out] at *; omega
                    by_cases c3 : mid < e ∧ e < b
                    · have d5 : decide (mid < e) = true := by rw [decide_eq_true_eq]; omega
                      have d6 : decide (e < b) = true := by rw [decide_eq_true_eq]; omega
                      go_wp2_with fail
                      clear d5 d6
                      have HHZ : Hid (Halves (ltOf c) xs (rot xs p m e) a p mid e b) := HH.out
                      rw [HZ1.out] at HHZ
                      refine (IH.out _ z1 _ _ _ mid e b (by first | rfl | omega) (by first | rfl | omega) (by first | rfl | omega) (by omega) HO2.out (HFN.out.later HG2.out) (rearr_D (HHZ.out.re.trans HM2.out.re) HDD.out) c3.1 c3.2 (by have := HZ2.out; omega) (sorted_same HHZ.out.s3 HM2.out.out (.inr (Nat.le_refl _))) (sorted_same HHZ.out.s4 HM2.out.out (.inr hde))).mono ?_
                      rintro e3 w3 ⟨rfl, hg3, z2, ho3, hm3⟩
                      have HG3 := Lib.hid (grownBy_trans HG2.out hg3)
                      have HO3 := Lib.hid ho3
                      have HM3 := Lib.hid hm3
                      clear hg3 ho3 hm3
                      go_wp2_with fail
                      refine bodyPost_end (results_none Tryz.results67 _ _ _) rfl ?_
                      exact ⟨rfl, HG3.out, z2, HO3.out, merge_done HHZ.out (by omega) (by omega) h3 HM2.out HM3.out⟩
                    · have HHZ : Hid (Halves (ltOf c) xs (rot xs p m e) a p mid e b) := HH.out
                      rw [HZ1.out] at HHZ
                      have HM3 : Hid (Merged (ltOf c) z1 z1 mid b) := merged_refl (sorted_join (sorted_same HHZ.out.s3 HM2.out.out (.inr (Nat.le_refl _))) (sorted_same HHZ.out.s4 HM2.out.out (.inr hde)) (by omega))
                      obtain ⟨b5, b6, hb5x, hb6x⟩ : ∃ b1 b2 : Bool, decide (mid < e) = b1 ∧ decide (e < b) = b2 := ⟨_, _, rfl, rfl⟩
                      have d5 : (b5 && b6) = false := by rw [← hb5x, ← hb6x, Bool.and_eq_false_iff, decide_eq_false_iff_not, decide_eq_false_iff_not]; omega
                      cases b5
                      · go_wp2_with fail
                        refine bodyPost_end (results_none Tryz.results67 _ _ _) rfl ?_
                        exact ⟨rfl, HG2.out, z1, HO2.out, merge_done HHZ.out (by omega) (by omega) h3 HM2.out HM3.out⟩
                      · cases b6
                        · go_wp2_with fail
                          refine bodyPost_end (results_none Tryz.results67 _ _ _) rfl ?_
                          exact ⟨rfl, HG2.out, z1, HO2.out, merge_done HHZ.out (by omega) (by omega) h3 HM2.out HM3.out⟩
                        · cases d5
                  · cases d3
            · cases d1
  · have hb2 : decide (mid < m) = false := by rw [decide_eq_false_iff_not]; omega
    have Q2 := Lib.hid q2
    have Q3 := Lib.hid q3
    clear q1 q2 q3
    go_wp2_with fail
    clear hmid hb2
    go_loopw [20, 21] (fun i j wr => ∃ p q : Nat, lo ≤ p ∧ p ≤ q ∧ q ≤ r ∧ i = .int .i64 p ∧ j = .int .i64 q ∧ Hid (GR w wr) ∧ Hid (∀ h, lo ≤ h → h < p → ltOf c (gi xs (mid + m - 1 - h)) (gi xs h) = false) ∧ Hid (∀ h, q ≤ h → h < r → ltOf c (gi xs (mid + m - 1 - h)) (gi xs h) = true)) (fun i j _ => (intOf j).toNat - (intOf i).toNat)
    case atStart => exact ⟨lo, r, Nat.le_refl _, hlr, Nat.le_refl _, by congr 1; have := Q2.out; omega, by congr 1; have := Q3.out; omega, GR.refl _, fun h h1 h2 => by omega, fun h h1 h2 => by omega⟩
    case round =>
      obtain ⟨p, q, hp, hpq, hq, rfl, rfl, hw, hd, hu⟩ := hrel
      clear Q2 Q3
      by_cases hlt : p < q
      · obtain ⟨h, hh, hh1, hh2⟩ : ∃ h : Nat, ((p : Int) + q) / 2 = (h : Int) ∧ p ≤ h ∧ h < q := ⟨(p + q) / 2, by omega, by omega, by omega⟩
        obtain ⟨k, hk, hk0, hk1, hk2⟩ : ∃ k : Nat, (mid : Int) + m - 1 - h = (k : Int) ∧ mid + m - 1 - h = k ∧ m ≤ k ∧ k < b := ⟨mid + m - 1 - h, by omega, by omega, by omega, by omega⟩
        have hhx : h < xs.length := by omega
        have hkx : k < xs.length := by omega
        obtain ⟨a0, a1, a2, a3⟩ := ((HO.out.gr hw.out).cellg hhx).xg
        obtain ⟨b0, b1, b2, b3⟩ := ((HO.out.gr hw.out).cellg hkx).xg
        have i1 : (h : Int) < xs.length := by omega
        have i2 : (h : Int) < cap := by omega
        have i3 : (k : Int) < xs.length := by omega
        have i4 : (k : Int) < cap := by omega
        have HCC : Hid (∀ w', w.grownBy w' (some g) → Calls Tryz.prog F (#[.agg #[.string (bs (T (gi xs k)).item), .string (bs (T (gi xs k)).truck), .int .i64 (T (gi xs k)).start, .int .i64 (T (gi xs k)).fin], .agg #[.string (bs (T (gi xs h)).item), .string (bs (T (gi xs h)).truck), .int .i64 (T (gi xs h)).start, .int .i64 (T (gi xs h)).fin]] ++ caps) w' fun e w'' => e = .returned (.int .i64 (c (gi xs k) (gi xs h))) ∧ GR w' w'') := fun w' hg => HF.out (gi xs k) (gi xs h) w' (HD.out k hkx) (HD.out h hhx) hg
        have e1 : IntKind.i64.wrap ((mid : Int) + m - 1 - h) = (k : Int) := by rw [IntWalk.i64_in _ (by omega)]; exact hk
        have e2 : IntKind.i64.wrap (k : Int) = (k : Int) := IntWalk.i64_in _ (by omega)
        cases hl2 : ltOf c (gi xs k) (gi xs h)
        · have hcb : decide (c (gi xs k) (gi xs h) < 0) = false := hl2
          have HU : Hid (∀ h', lo ≤ h' → h' < h + 1 → ltOf c (gi xs (mid + m - 1 - h')) (gi xs h') = false) := fun h' g1 g4 => s3_down HOO.out HD.out h3 HS1.out HS2.out (by omega) (show h' ≤ h by omega) (by omega) (by omega) (by omega) (by omega) (by rw [hk0]; exact hl2)
          clear hl2 hk0
          go_wp2_with fail
          clear hh
          go_quiet_grown (exact Calls.grown_of (HCC.out _ (grownBy_gr (World.grownBy.refl _ _) (hw.out.trans (gr_of _ _ _)))))
          clear hk e1 e2
          go_wp2_with fail
          go_roundw
          case rel => exact ⟨h + 1, q, by omega, by omega, hq, by go_num, rfl, hw.out.trans (gr_of _ _ _), HU, hu⟩
          case measure => simp [intOf]; omega
        · have hcb : decide (c (gi xs k) (gi xs h) < 0) = true := hl2
          have HU : Hid (∀ h', h ≤ h' → h' < r → ltOf c (gi xs (mid + m - 1 - h')) (gi xs h') = true) := fun h' g1 g4 => s3_up HOO.out HD.out h3 HS1.out HS2.out (show a ≤ h by omega) g1 (by omega) (by omega) (by omega) (by omega) (by rw [hk0]; exact hl2)
          clear hl2 hk0
          go_wp2_with fail
          clear hh
          go_quiet_grown (exact Calls.grown_of (HCC.out _ (grownBy_gr (World.grownBy.refl _ _) (hw.out.trans (gr_of _ _ _)))))
          clear hk e1 e2
          go_wp2_with fail
          go_roundw
          case rel => exact ⟨p, h, hp, by omega, by omega, rfl, rfl, hw.out.trans (gr_of _ _ _), hd, HU⟩
          case measure => simp [intOf]; omega
      · obtain rfl : p = q := by omega
        have hpm : p ≤ m := by omega
        have hpd : p ≤ mid := by omega
        obtain ⟨e, he, he0, he1, he2⟩ : ∃ e : Nat, (mid : Int) + m - p = (e : Int) ∧ mid + m - p = e ∧ m ≤ e ∧ e ≤ b := ⟨mid + m - p, by omega, rfl, by omega, by omega⟩
        have hde : mid ≤ e := by omega
        have HH : Hid (Halves (ltOf c) xs (rot xs p m e) a p mid e b) := by
          have := halves (s := p) (mid := mid) HOO.out HD.out h3 HS1.out HS2.out hp hq (by omega) (by omega) (by omega) hpm hpd (by omega) (by omega) (HLO.out p) (HR.out p) hd.out hu.out
          rw [he0] at this
          exact this
        have HZ : Hid ((rot xs p m e).length = xs.length) := rot_length _ _ _ _
        clear hd hu he0 hlt
        by_cases c1 : p < m ∧ m < e
        · have d1 : decide (p < m) = true := by rw [decide_eq_true_eq]; omega
          have d2 : decide (m < e) = true := by rw [decide_eq_true_eq]; omega
          go_wp2_with fail
          clear he d1 d2
          refine (rotY_int T _ _ B g xs.length cap xs _ _ _ p m e rfl rfl (by first | rfl | omega) (HO.out.gr hw.out) c1.1 c1.2 (by omega) hl).mono ?_
          rintro e1 w1 ⟨rfl, hg1, ho1⟩
          have HG1 := Lib.hid (grownBy_trans (grownBy_gr (World.grownBy.refl w (some g)) hw.out) hg1)
          have HO1 := Lib.hid ho1
          clear hg1 ho1
          by_cases c2 : a < p ∧ p < mid
          · have d3 : decide (a < p) = true := by rw [decide_eq_true_eq]; omega
            have d4 : decide (p < mid) = true := by rw [decide_eq_true_eq]; omega
            go_wp2_with fail
            clear d3 d4
            refine (IH.out _ (rot xs p m e) _ _ _ a p mid rfl rfl rfl (by omega) HO1.out (HFN.out.later HG1.out) (rearr_D HH.out.re HDD.out) c2.1 c2.2 (by have := HZ.out; omega) HH.out.s1 HH.out.s2).mono ?_
            rintro e2 w2 ⟨rfl, hg2, z1, ho2, hm2⟩
            have HG2 := Lib.hid (grownBy_trans HG1.out hg2)
            have HO2 := Lib.hid ho2
            have HM2 := Lib.hid hm2
            clear hg2 ho2 hm2
            have HZ2 : Hid (z1.length = xs.length) := by have := HM2.out.out.1; have := HZ.out; show _ = _; omega
            by_cases c3 : mid < e ∧ e < b
            · have d5 : decide (mid < e) = true := by rw [decide_eq_true_eq]; omega
              have d6 : decide (e < b) = true := by rw [decide_eq_true_eq]; omega
              go_wp2_with fail
              clear d5 d6
              have HHZ : Hid (Halves (ltOf c) xs (rot xs p m e) a p mid e b) := HH.out
              refine (IH.out _ z1 _ _ _ mid e b (by first | rfl | omega) (by first | rfl | omega) (by first | rfl | omega) (by omega) HO2.out (HFN.out.later HG2.out) (rearr_D (HHZ.out.re.trans HM2.out.re) HDD.out) c3.1 c3.2 (by have := HZ2.out; omega) (sorted_same HHZ.out.s3 HM2.out.out (.inr (Nat.le_refl _))) (sorted_same HHZ.out.s4 HM2.out.out (.inr hde))).mono ?_
              rintro e3 w3 ⟨rfl, hg3, z2, ho3, hm3⟩
              have HG3 := Lib.hid (grownBy_trans HG2.out hg3)
              have HO3 := Lib.hid ho3
              have HM3 := Lib.hid hm3
              clear hg3 ho3 hm3
              go_wp2_with fail
              refine bodyPost_end (results_none Tryz.results67 _ _ _) rfl ?_
              exact ⟨rfl, HG3.out, z2, HO3.out, merge_done HHZ.out (by omega) (by omega) h3 HM2.out HM3.out⟩
            · have HHZ : Hid (Halves (ltOf c) xs (rot xs p m e) a p mid e b) := HH.out
              have HM3 : Hid (Merged (ltOf c) z1 z1 mid b) := merged_refl (sorted_join (sorted_same HHZ.out.s3 HM2.out.out (.inr (Nat.le_refl _))) (sorted_same HHZ.out.s4 HM2.out.out (.inr hde)) (by omega))
              obtain ⟨b5, b6, hb5x, hb6x⟩ : ∃ b1 b2 : Bool, decide (mid < e) = b1 ∧ decide (e < b) = b2 := ⟨_, _, rfl, rfl⟩
              have d5 : (b5 && b6) = false := by rw [← hb5x, ← hb6x, Bool.and_eq_false_iff, decide_eq_false_iff_not, decide_eq_false_iff_not]; omega
              cases b5
              · go_wp2_with fail
                refine bodyPost_end (results_none Tryz.results67 _ _ _) rfl ?_
                exact ⟨rfl, HG2.out, z1, HO2.out, merge_done HHZ.out (by omega) (by omega) h3 HM2.out HM3.out⟩
              · cases b6
                · go_wp2_with fail
                  refine bodyPost_end (results_none Tryz.results67 _ _ _) rfl ?_
                  exact ⟨rfl, HG2.out, z1, HO2.out, merge_done HHZ.out (by omega) (by omega) h3 HM2.out HM3.out⟩
                · cases d5
          · have HM2 : Hid (Merged (ltOf c) (rot xs p m e) (rot xs p m e) a mid) := merged_refl (sorted_join HH.out.s1 HH.out.s2 (by omega))
            have HG2 := HG1
            have HO2 := HO1
            obtain ⟨b3, b4, hb3x, hb4x⟩ : ∃ b1 b2 : Bool, decide (a < p) = b1 ∧ decide (p < mid) = b2 := ⟨_, _, rfl, rfl⟩
            have d3 : (b3 && b4) = false := by rw [← hb3x, ← hb4x, Bool.and_eq_false_iff, decide_eq_false_iff_not, decide_eq_false_iff_not]; omega
            generalize hz1 : rot xs p m e = z1 at HM2 HO2
            have HZ1 := Lib.hid hz1
            clear hz1
            cases b3
            · clear d3
              have HZ2 : Hid (z1.length = xs.length) := by have := HM2.out.out.1; have := HZ.out; show _ = _; rw [HZ1.out] at *; omega
              by_cases c3 : mid < e ∧ e < b
              · have d5 : decide (mid < e) = true := by rw [decide_eq_true_eq]; omega
                have d6 : decide (e < b) = true := by rw [decide_eq_true_eq]; omega
                go_wp2_with fail
                clear d5 d6
                have HHZ : Hid (Halves (ltOf c) xs (rot xs p m e) a p mid e b) := HH.out
                rw [HZ1.out] at HHZ
                refine (IH.out _ z1 _ _ _ mid e b (by first | rfl | omega) (by first | rfl | omega) (by first | rfl | omega) (by omega) HO2.out (HFN.out.later HG2.out) (rearr_D (HHZ.out.re.trans HM2.out.re) HDD.out) c3.1 c3.2 (by have := HZ2.out; omega) (sorted_same HHZ.out.s3 HM2.out.out (.inr (Nat.le_refl _))) (sorted_same HHZ.out.s4 HM2.out.out (.inr hde))).mono ?_
                rintro e3 w3 ⟨rfl, hg3, z2, ho3, hm3⟩
                have HG3 := Lib.hid (grownBy_trans HG2.out hg3)
                have HO3 := Lib.hid ho3
                have HM3 := Lib.hid hm3
                clear hg3 ho3 hm3
                go_wp2_with fail
                refine bodyPost_end (results_none Tryz.results67 _ _ _) rfl ?_
                exact ⟨rfl, HG3.out, z2, HO3.out, merge_done HHZ.out (by omega) (by omega) h3 HM2.out HM3.out⟩
              · have HHZ : Hid (Halves (ltOf c) xs (rot xs p m e) a p mid e b) := HH.out
                rw [HZ1.out] at HHZ
                have HM3 : Hid (Merged (ltOf c) z1 z1 mid b) := merged_refl (sorted_join (sorted_same HHZ.out.s3 HM2.out.out (.inr (Nat.le_refl _))) (sorted_same HHZ.out.s4 HM2.out.out (.inr hde)) (by omega))
                obtain ⟨b5, b6, hb5x, hb6x⟩ : ∃ b1 b2 : Bool, decide (mid < e) = b1 ∧ decide (e < b) = b2 := ⟨_, _, rfl, rfl⟩
                have d5 : (b5 && b6) = false := by rw [← hb5x, ← hb6x, Bool.and_eq_false_iff, decide_eq_false_iff_not, decide_eq_false_iff_not]; omega
                cases b5
                · go_wp2_with fail
                  refine bodyPost_end (results_none Tryz.results67 _ _ _) rfl ?_
                  exact ⟨rfl, HG2.out, z1, HO2.out, merge_done HHZ.out (by omega) (by omega) h3 HM2.out HM3.out⟩
                · cases b6
                  · go_wp2_with fail
                    refine bodyPost_end (results_none Tryz.results67 _ _ _) rfl ?_
                    exact ⟨rfl, HG2.out, z1, HO2.out, merge_done HHZ.out (by omega) (by omega) h3 HM2.out HM3.out⟩
                  · cases d5
            · cases b4
              · clear d3
                have HZ2 : Hid (z1.length = xs.length) := by have := HM2.out.out.1; have := HZ.out; show _ = _; rw [HZ1.out] at *; omega
                by_cases c3 : mid < e ∧ e < b
                · have d5 : decide (mid < e) = true := by rw [decide_eq_true_eq]; omega
                  have d6 : decide (e < b) = true := by rw [decide_eq_true_eq]; omega
                  go_wp2_with fail
                  clear d5 d6
                  have HHZ : Hid (Halves (ltOf c) xs (rot xs p m e) a p mid e b) := HH.out
                  rw [HZ1.out] at HHZ
                  refine (IH.out _ z1 _ _ _ mid e b (by first | rfl | omega) (by first | rfl | omega) (by first | rfl | omega) (by omega) HO2.out (HFN.out.later HG2.out) (rearr_D (HHZ.out.re.trans HM2.out.re) HDD.out) c3.1 c3.2 (by have := HZ2.out; omega) (sorted_same HHZ.out.s3 HM2.out.out (.inr (Nat.le_refl _))) (sorted_same HHZ.out.s4 HM2.out.out (.inr hde))).mono ?_
                  rintro e3 w3 ⟨rfl, hg3, z2, ho3, hm3⟩
                  have HG3 := Lib.hid (grownBy_trans HG2.out hg3)
                  have HO3 := Lib.hid ho3
                  have HM3 := Lib.hid hm3
                  clear hg3 ho3 hm3
                  go_wp2_with fail
                  refine bodyPost_end (results_none Tryz.results67 _ _ _) rfl ?_
                  exact ⟨rfl, HG3.out, z2, HO3.out, merge_done HHZ.out (by omega) (by omega) h3 HM2.out HM3.out⟩
                · have HHZ : Hid (Halves (ltOf c) xs (rot xs p m e) a p mid e b) := HH.out
                  rw [HZ1.out] at HHZ
                  have HM3 : Hid (Merged (ltOf c) z1 z1 mid b) := merged_refl (sorted_join (sorted_same HHZ.out.s3 HM2.out.out (.inr (Nat.le_refl _))) (sorted_same HHZ.out.s4 HM2.out.out (.inr hde)) (by omega))
                  obtain ⟨b5, b6, hb5x, hb6x⟩ : ∃ b1 b2 : Bool, decide (mid < e) = b1 ∧ decide (e < b) = b2 := ⟨_, _, rfl, rfl⟩
                  have d5 : (b5 && b6) = false := by rw [← hb5x, ← hb6x, Bool.and_eq_false_iff, decide_eq_false_iff_not, decide_eq_false_iff_not]; omega
                  cases b5
                  · go_wp2_with fail
                    refine bodyPost_end (results_none Tryz.results67 _ _ _) rfl ?_
                    exact ⟨rfl, HG2.out, z1, HO2.out, merge_done HHZ.out (by omega) (by omega) h3 HM2.out HM3.out⟩
                  · cases b6
                    · go_wp2_with fail
                      refine bodyPost_end (results_none Tryz.results67 _ _ _) rfl ?_
                      exact ⟨rfl, HG2.out, z1, HO2.out, merge_done HHZ.out (by omega) (by omega) h3 HM2.out HM3.out⟩
                    · cases d5
              · cases d3
        · have hid : rot xs p m e = xs := by
            rcases Nat.eq_or_lt_of_le hpm with h | h
            · subst h; exact rot_nil_left (by omega) (by omega)
            · obtain rfl : m = e := by omega
              exact rot_nil_right (by omega) (by omega)
          have d1 : (decide (p < m) && decide (m < e)) = false := by rw [Bool.and_eq_false_iff, decide_eq_false_iff_not, decide_eq_false_iff_not]; omega
          have HG1 := Lib.hid (grownBy_gr (World.grownBy.refl w (some g)) hw.out)
          have HO1 : Hid (OwnY T wr B (.slice (some ⟨g, 0, none⟩) xs.length cap) (rot xs p m e)) := by rw [hid]; exact HO.out.gr hw.out
          clear hid
          obtain ⟨b1, b2, hb1x, hb2x⟩ : ∃ b1 b2 : Bool, decide (p < m) = b1 ∧ decide (m < e) = b2 := ⟨_, _, rfl, rfl⟩
          rw [hb1x, hb2x] at d1
          cases b1
          · clear d1
            obtain ⟨w1, rfl⟩ : ∃ x : World, x = wr := ⟨_, rfl⟩
            by_cases c2 : a < p ∧ p < mid
            · have d3 : decide (a < p) = true := by rw [decide_eq_true_eq]; omega
              have d4 : decide (p < mid) = true := by rw [decide_eq_true_eq]; omega
              go_wp2_with fail
              clear d3 d4
              refine (IH.out _ (rot xs p m e) _ _ _ a p mid rfl rfl rfl (by omega) HO1.out (HFN.out.later HG1.out) (rearr_D HH.out.re HDD.out) c2.1 c2.2 (by have := HZ.out; omega) HH.out.s1 HH.out.s2).mono ?_
              rintro e2 w2 ⟨rfl, hg2, z1, ho2, hm2⟩
              have HG2 := Lib.hid (grownBy_trans HG1.out hg2)
              have HO2 := Lib.hid ho2
              have HM2 := Lib.hid hm2
              clear hg2 ho2 hm2
              have HZ2 : Hid (z1.length = xs.length) := by have := HM2.out.out.1; have := HZ.out; show _ = _; omega
              by_cases c3 : mid < e ∧ e < b
              · have d5 : decide (mid < e) = true := by rw [decide_eq_true_eq]; omega
                have d6 : decide (e < b) = true := by rw [decide_eq_true_eq]; omega
                go_wp2_with fail
                clear d5 d6
                have HHZ : Hid (Halves (ltOf c) xs (rot xs p m e) a p mid e b) := HH.out
                refine (IH.out _ z1 _ _ _ mid e b (by first | rfl | omega) (by first | rfl | omega) (by first | rfl | omega) (by omega) HO2.out (HFN.out.later HG2.out) (rearr_D (HHZ.out.re.trans HM2.out.re) HDD.out) c3.1 c3.2 (by have := HZ2.out; omega) (sorted_same HHZ.out.s3 HM2.out.out (.inr (Nat.le_refl _))) (sorted_same HHZ.out.s4 HM2.out.out (.inr hde))).mono ?_
                rintro e3 w3 ⟨rfl, hg3, z2, ho3, hm3⟩
                have HG3 := Lib.hid (grownBy_trans HG2.out hg3)
                have HO3 := Lib.hid ho3
                have HM3 := Lib.hid hm3
                clear hg3 ho3 hm3
                go_wp2_with fail
                refine bodyPost_end (results_none Tryz.results67 _ _ _) rfl ?_
                exact ⟨rfl, HG3.out, z2, HO3.out, merge_done HHZ.out (by omega) (by omega) h3 HM2.out HM3.out⟩
              · have HHZ : Hid (Halves (ltOf c) xs (rot xs p m e) a p mid e b) := HH.out
                have HM3 : Hid (Merged (ltOf c) z1 z1 mid b) := merged_refl (sorted_join (sorted_same HHZ.out.s3 HM2.out.out (.inr (Nat.le_refl _))) (sorted_same HHZ.out.s4 HM2.out.out (.inr hde)) (by omega))
                obtain ⟨b5, b6, hb5x, hb6x⟩ : ∃ b1 b2 : Bool, decide (mid < e) = b1 ∧ decide (e < b) = b2 := ⟨_, _, rfl, rfl⟩
                have d5 : (b5 && b6) = false := by rw [← hb5x, ← hb6x, Bool.and_eq_false_iff, decide_eq_false_iff_not, decide_eq_false_iff_not]; omega
                cases b5
                · go_wp2_with fail
                  refine bodyPost_end (results_none Tryz.results67 _ _ _) rfl ?_
                  exact ⟨rfl, HG2.out, z1, HO2.out, merge_done HHZ.out (by omega) (by omega) h3 HM2.out HM3.out⟩
                · cases b6
                  · go_wp2_with fail
                    refine bodyPost_end (results_none Tryz.results67 _ _ _) rfl ?_
                    exact ⟨rfl, HG2.out, z1, HO2.out, merge_done HHZ.out (by omega) (by omega) h3 HM2.out HM3.out⟩
                  · cases d5
            · have HM2 : Hid (Merged (ltOf c) (rot xs p m e) (rot xs p m e) a mid) := merged_refl (sorted_join HH.out.s1 HH.out.s2 (by omega))
              have HG2 := HG1
              have HO2 := HO1
              obtain ⟨b3, b4, hb3x, hb4x⟩ : ∃ b1 b2 : Bool, decide (a < p) = b1 ∧ decide (p < mid) = b2 := ⟨_, _, rfl, rfl⟩
              have d3 : (b3 && b4) = false := by rw [← hb3x, ← hb4x, Bool.and_eq_false_iff, decide_eq_false_iff_not, decide_eq_false_iff_not]; omega
              generalize hz1 : rot xs p m e = z1 at HM2 HO2
              have HZ1 := Lib.hid hz1
              clear hz1
              cases b3
              · clear d3
                have HZ2 : Hid (z1.length = xs.length) := by have := HM2.out.out.1; have := HZ.out; show _ = _; rw [HZ1.out] at *; omega
                by_cases c3 : mid < e ∧ e < b
                · have d5 : decide (mid < e) = true := by rw [decide_eq_true_eq]; omega
                  have d6 : decide (e < b) = true := by rw [decide_eq_true_eq]; omega
                  go_wp2_with fail
                  clear d5 d6
                  have HHZ : Hid (Halves (ltOf c) xs (rot xs p m e) a p mid e b) := HH.out
                  rw [HZ1.out] at HHZ
                  refine (IH.out _ z1 _ _ _ mid e b (by first | rfl | omega) (by first | rfl | omega) (by first | rfl | omega) (by omega) HO2.out (HFN.out.later HG2.out) (rearr_D (HHZ.out.re.trans HM2.out.re) HDD.out) c3.1 c3.2 (by have := HZ2.out; omega) (sorted_same HHZ.out.s3 HM2.out.out (.inr (Nat.le_refl _))) (sorted_same HHZ.out.s4 HM2.out.out (.inr hde))).mono ?_
                  rintro e3 w3 ⟨rfl, hg3, z2, ho3, hm3⟩
                  have HG3 := Lib.hid (grownBy_trans HG2.out hg3)
                  have HO3 := Lib.hid ho3
                  have HM3 := Lib.hid hm3
                  clear hg3 ho3 hm3
                  go_wp2_with fail
                  refine bodyPost_end (results_none Tryz.results67 _ _ _) rfl ?_
                  exact ⟨rfl, HG3.out, z2, HO3.out, merge_done HHZ.out (by omega) (by omega) h3 HM2.out HM3.out⟩
                · have HHZ : Hid (Halves (ltOf c) xs (rot xs p m e) a p mid e b) := HH.out
                  rw [HZ1.out] at HHZ
                  have HM3 : Hid (Merged (ltOf c) z1 z1 mid b) := merged_refl (sorted_join (sorted_same HHZ.out.s3 HM2.out.out (.inr (Nat.le_refl _))) (sorted_same HHZ.out.s4 HM2.out.out (.inr hde)) (by omega))
                  obtain ⟨b5, b6, hb5x, hb6x⟩ : ∃ b1 b2 : Bool, decide (mid < e) = b1 ∧ decide (e < b) = b2 := ⟨_, _, rfl, rfl⟩
                  have d5 : (b5 && b6) = false := by rw [← hb5x, ← hb6x, Bool.and_eq_false_iff, decide_eq_false_iff_not, decide_eq_false_iff_not]; omega
                  cases b5
                  · go_wp2_with fail
                    refine bodyPost_end (results_none Tryz.results67 _ _ _) rfl ?_
                    exact ⟨rfl, HG2.out, z1, HO2.out, merge_done HHZ.out (by omega) (by omega) h3 HM2.out HM3.out⟩
                  · cases b6
                    · go_wp2_with fail
                      refine bodyPost_end (results_none Tryz.results67 _ _ _) rfl ?_
                      exact ⟨rfl, HG2.out, z1, HO2.out, merge_done HHZ.out (by omega) (by omega) h3 HM2.out HM3.out⟩
                    · cases d5
              · cases b4
                · clear d3
                  have HZ2 : Hid (z1.length = xs.length) := by have := HM2.out.out.1; have := HZ.out; show _ = _; rw [HZ1.out] at *; omega
                  by_cases c3 : mid < e ∧ e < b
                  · have d5 : decide (mid < e) = true := by rw [decide_eq_true_eq]; omega
                    have d6 : decide (e < b) = true := by rw [decide_eq_true_eq]; omega
                    go_wp2_with fail
                    clear d5 d6
                    have HHZ : Hid (Halves (ltOf c) xs (rot xs p m e) a p mid e b) := HH.out
                    rw [HZ1.out] at HHZ
                    refine (IH.out _ z1 _ _ _ mid e b (by first | rfl | omega) (by first | rfl | omega) (by first | rfl | omega) (by omega) HO2.out (HFN.out.later HG2.out) (rearr_D (HHZ.out.re.trans HM2.out.re) HDD.out) c3.1 c3.2 (by have := HZ2.out; omega) (sorted_same HHZ.out.s3 HM2.out.out (.inr (Nat.le_refl _))) (sorted_same HHZ.out.s4 HM2.out.out (.inr hde))).mono ?_
                    rintro e3 w3 ⟨rfl, hg3, z2, ho3, hm3⟩
                    have HG3 := Lib.hid (grownBy_trans HG2.out hg3)
                    have HO3 := Lib.hid ho3
                    have HM3 := Lib.hid hm3
                    clear hg3 ho3 hm3
                    go_wp2_with fail
                    refine bodyPost_end (results_none Tryz.results67 _ _ _) rfl ?_
                    exact ⟨rfl, HG3.out, z2, HO3.out, merge_done HHZ.out (by omega) (by omega) h3 HM2.out HM3.out⟩
                  · have HHZ : Hid (Halves (ltOf c) xs (rot xs p m e) a p mid e b) := HH.out
                    rw [HZ1.out] at HHZ
                    have HM3 : Hid (Merged (ltOf c) z1 z1 mid b) := merged_refl (sorted_join (sorted_same HHZ.out.s3 HM2.out.out (.inr (Nat.le_refl _))) (sorted_same HHZ.out.s4 HM2.out.out (.inr hde)) (by omega))
                    obtain ⟨b5, b6, hb5x, hb6x⟩ : ∃ b1 b2 : Bool, decide (mid < e) = b1 ∧ decide (e < b) = b2 := ⟨_, _, rfl, rfl⟩
                    have d5 : (b5 && b6) = false := by rw [← hb5x, ← hb6x, Bool.and_eq_false_iff, decide_eq_false_iff_not, decide_eq_false_iff_not]; omega
                    cases b5
                    · go_wp2_with fail
                      refine bodyPost_end (results_none Tryz.results67 _ _ _) rfl ?_
                      exact ⟨rfl, HG2.out, z1, HO2.out, merge_done HHZ.out (by omega) (by omega) h3 HM2.out HM3.out⟩
                    · cases b6
                      · go_wp2_with fail
                        refine bodyPost_end (results_none Tryz.results67 _ _ _) rfl ?_
                        exact ⟨rfl, HG2.out, z1, HO2.out, merge_done HHZ.out (by omega) (by omega) h3 HM2.out HM3.out⟩
                      · cases d5
                · cases d3
          · cases b2
            · clear d1
              obtain ⟨w1, rfl⟩ : ∃ x : World, x = wr := ⟨_, rfl⟩
              by_cases c2 : a < p ∧ p < mid
              · have d3 : decide (a < p) = true := by rw [decide_eq_true_eq]; omega
                have d4 : decide (p < mid) = true := by rw [decide_eq_true_eq]; omega
                go_wp2_with fail
                clear d3 d4
                refine (IH.out _ (rot xs p m e) _ _ _ a p mid rfl rfl rfl (by omega) HO1.out (HFN.out.later HG1.out) (rearr_D HH.out.re HDD.out) c2.1 c2.2 (by have := HZ.out; omega) HH.out.s1 HH.out.s2).mono ?_
                rintro e2 w2 ⟨rfl, hg2, z1, ho2, hm2⟩
                have HG2 := Lib.hid (grownBy_trans HG1.out hg2)
                have HO2 := Lib.hid ho2
                have HM2 := Lib.hid hm2
                clear hg2 ho2 hm2
                have HZ2 : Hid (z1.length = xs.length) := by have := HM2.out.out.1; have := HZ.out; show _ = _; omega
                by_cases c3 : mid < e ∧ e < b
                · have d5 : decide (mid < e) = true := by rw [decide_eq_true_eq]; omega
                  have d6 : decide (e < b) = true := by rw [decide_eq_true_eq]; omega
                  go_wp2_with fail
                  clear d5 d6
                  have HHZ : Hid (Halves (ltOf c) xs (rot xs p m e) a p mid e b) := HH.out
                  refine (IH.out _ z1 _ _ _ mid e b (by first | rfl | omega) (by first | rfl | omega) (by first | rfl | omega) (by omega) HO2.out (HFN.out.later HG2.out) (rearr_D (HHZ.out.re.trans HM2.out.re) HDD.out) c3.1 c3.2 (by have := HZ2.out; omega) (sorted_same HHZ.out.s3 HM2.out.out (.inr (Nat.le_refl _))) (sorted_same HHZ.out.s4 HM2.out.out (.inr hde))).mono ?_
                  rintro e3 w3 ⟨rfl, hg3, z2, ho3, hm3⟩
                  have HG3 := Lib.hid (grownBy_trans HG2.out hg3)
                  have HO3 := Lib.hid ho3
                  have HM3 := Lib.hid hm3
                  clear hg3 ho3 hm3
                  go_wp2_with fail
                  refine bodyPost_end (results_none Tryz.results67 _ _ _) rfl ?_
                  exact ⟨rfl, HG3.out, z2, HO3.out, merge_done HHZ.out (by omega) (by omega) h3 HM2.out HM3.out⟩
                · have HHZ : Hid (Halves (ltOf c) xs (rot xs p m e) a p mid e b) := HH.out
                  have HM3 : Hid (Merged (ltOf c) z1 z1 mid b) := merged_refl (sorted_join (sorted_same HHZ.out.s3 HM2.out.out (.inr (Nat.le_refl _))) (sorted_same HHZ.out.s4 HM2.out.out (.inr hde)) (by omega))
                  obtain ⟨b5, b6, hb5x, hb6x⟩ : ∃ b1 b2 : Bool, decide (mid < e) = b1 ∧ decide (e < b) = b2 := ⟨_, _, rfl, rfl⟩
                  have d5 : (b5 && b6) = false := by rw [← hb5x, ← hb6x, Bool.and_eq_false_iff, decide_eq_false_iff_not, decide_eq_false_iff_not]; omega
                  cases b5
                  · go_wp2_with fail
                    refine bodyPost_end (results_none Tryz.results67 _ _ _) rfl ?_
                    exact ⟨rfl, HG2.out, z1, HO2.out, merge_done HHZ.out (by omega) (by omega) h3 HM2.out HM3.out⟩
                  · cases b6
                    · go_wp2_with fail
                      refine bodyPost_end (results_none Tryz.results67 _ _ _) rfl ?_
                      exact ⟨rfl, HG2.out, z1, HO2.out, merge_done HHZ.out (by omega) (by omega) h3 HM2.out HM3.out⟩
                    · cases d5
              · have HM2 : Hid (Merged (ltOf c) (rot xs p m e) (rot xs p m e) a mid) := merged_refl (sorted_join HH.out.s1 HH.out.s2 (by omega))
                have HG2 := HG1
                have HO2 := HO1
                obtain ⟨b3, b4, hb3x, hb4x⟩ : ∃ b1 b2 : Bool, decide (a < p) = b1 ∧ decide (p < mid) = b2 := ⟨_, _, rfl, rfl⟩
                have d3 : (b3 && b4) = false := by rw [← hb3x, ← hb4x, Bool.and_eq_false_iff, decide_eq_false_iff_not, decide_eq_false_iff_not]; omega
                generalize hz1 : rot xs p m e = z1 at HM2 HO2
                have HZ1 := Lib.hid hz1
                clear hz1
                cases b3
                · clear d3
                  have HZ2 : Hid (z1.length = xs.length) := by have := HM2.out.out.1; have := HZ.out; show _ = _; rw [HZ1.out] at *; omega
                  by_cases c3 : mid < e ∧ e < b
                  · have d5 : decide (mid < e) = true := by rw [decide_eq_true_eq]; omega
                    have d6 : decide (e < b) = true := by rw [decide_eq_true_eq]; omega
                    go_wp2_with fail
                    clear d5 d6
                    have HHZ : Hid (Halves (ltOf c) xs (rot xs p m e) a p mid e b) := HH.out
                    rw [HZ1.out] at HHZ
                    refine (IH.out _ z1 _ _ _ mid e b (by first | rfl | omega) (by first | rfl | omega) (by first | rfl | omega) (by omega) HO2.out (HFN.out.later HG2.out) (rearr_D (HHZ.out.re.trans HM2.out.re) HDD.out) c3.1 c3.2 (by have := HZ2.out; omega) (sorted_same HHZ.out.s3 HM2.out.out (.inr (Nat.le_refl _))) (sorted_same HHZ.out.s4 HM2.out.out (.inr hde))).mono ?_
                    rintro e3 w3 ⟨rfl, hg3, z2, ho3, hm3⟩
                    have HG3 := Lib.hid (grownBy_trans HG2.out hg3)
                    have HO3 := Lib.hid ho3
                    have HM3 := Lib.hid hm3
                    clear hg3 ho3 hm3
                    go_wp2_with fail
                    refine bodyPost_end (results_none Tryz.results67 _ _ _) rfl ?_
                    exact ⟨rfl, HG3.out, z2, HO3.out, merge_done HHZ.out (by omega) (by omega) h3 HM2.out HM3.out⟩
                  · have HHZ : Hid (Halves (ltOf c) xs (rot xs p m e) a p mid e b) := HH.out
                    rw [HZ1.out] at HHZ
                    have HM3 : Hid (Merged (ltOf c) z1 z1 mid b) := merged_refl (sorted_join (sorted_same HHZ.out.s3 HM2.out.out (.inr (Nat.le_refl _))) (sorted_same HHZ.out.s4 HM2.out.out (.inr hde)) (by omega))
                    obtain ⟨b5, b6, hb5x, hb6x⟩ : ∃ b1 b2 : Bool, decide (mid < e) = b1 ∧ decide (e < b) = b2 := ⟨_, _, rfl, rfl⟩
                    have d5 : (b5 && b6) = false := by rw [← hb5x, ← hb6x, Bool.and_eq_false_iff, decide_eq_false_iff_not, decide_eq_false_iff_not]; omega
                    cases b5
                    · go_wp2_with fail
                      refine bodyPost_end (results_none Tryz.results67 _ _ _) rfl ?_
                      exact ⟨rfl, HG2.out, z1, HO2.out, merge_done HHZ.out (by omega) (by omega) h3 HM2.out HM3.out⟩
                    · cases b6
                      · go_wp2_with fail
                        refine bodyPost_end (results_none Tryz.results67 _ _ _) rfl ?_
                        exact ⟨rfl, HG2.out, z1, HO2.out, merge_done HHZ.out (by omega) (by omega) h3 HM2.out HM3.out⟩
                      · cases d5
                · cases b4
                  · clear d3
                    have HZ2 : Hid (z1.length = xs.length) := by have := HM2.out.out.1; have := HZ.out; show _ = _; rw [HZ1.out] at *; omega
                    by_cases c3 : mid < e ∧ e < b
                    · have d5 : decide (mid < e) = true := by rw [decide_eq_true_eq]; omega
                      have d6 : decide (e < b) = true := by rw [decide_eq_true_eq]; omega
                      go_wp2_with fail
                      clear d5 d6
                      have HHZ : Hid (Halves (ltOf c) xs (rot xs p m e) a p mid e b) := HH.out
                      rw [HZ1.out] at HHZ
                      refine (IH.out _ z1 _ _ _ mid e b (by first | rfl | omega) (by first | rfl | omega) (by first | rfl | omega) (by omega) HO2.out (HFN.out.later HG2.out) (rearr_D (HHZ.out.re.trans HM2.out.re) HDD.out) c3.1 c3.2 (by have := HZ2.out; omega) (sorted_same HHZ.out.s3 HM2.out.out (.inr (Nat.le_refl _))) (sorted_same HHZ.out.s4 HM2.out.out (.inr hde))).mono ?_
                      rintro e3 w3 ⟨rfl, hg3, z2, ho3, hm3⟩
                      have HG3 := Lib.hid (grownBy_trans HG2.out hg3)
                      have HO3 := Lib.hid ho3
                      have HM3 := Lib.hid hm3
                      clear hg3 ho3 hm3
                      go_wp2_with fail
                      refine bodyPost_end (results_none Tryz.results67 _ _ _) rfl ?_
                      exact ⟨rfl, HG3.out, z2, HO3.out, merge_done HHZ.out (by omega) (by omega) h3 HM2.out HM3.out⟩
                    · have HHZ : Hid (Halves (ltOf c) xs (rot xs p m e) a p mid e b) := HH.out
                      rw [HZ1.out] at HHZ
                      have HM3 : Hid (Merged (ltOf c) z1 z1 mid b) := merged_refl (sorted_join (sorted_same HHZ.out.s3 HM2.out.out (.inr (Nat.le_refl _))) (sorted_same HHZ.out.s4 HM2.out.out (.inr hde)) (by omega))
                      obtain ⟨b5, b6, hb5x, hb6x⟩ : ∃ b1 b2 : Bool, decide (mid < e) = b1 ∧ decide (e < b) = b2 := ⟨_, _, rfl, rfl⟩
                      have d5 : (b5 && b6) = false := by rw [← hb5x, ← hb6x, Bool.and_eq_false_iff, decide_eq_false_iff_not, decide_eq_false_iff_not]; omega
                      cases b5
                      · go_wp2_with fail
                        refine bodyPost_end (results_none Tryz.results67 _ _ _) rfl ?_
                        exact ⟨rfl, HG2.out, z1, HO2.out, merge_done HHZ.out (by omega) (by omega) h3 HM2.out HM3.out⟩
                      · cases b6
                        · go_wp2_with fail
                          refine bodyPost_end (results_none Tryz.results67 _ _ _) rfl ?_
                          exact ⟨rfl, HG2.out, z1, HO2.out, merge_done HHZ.out (by omega) (by omega) h3 HM2.out HM3.out⟩
                        · cases d5
                  · cases d3
            · cases d1
end Go.Proofs.YtpbmmdoodmbneaaGreatDoor
