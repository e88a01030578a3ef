/- Contracts: swapRange and rotate of package slices over trips, in place. -/
import Derived.Test.YtpbmmdoodmbneaaGreatDoorSort
import Derived.Test.YtpbmmdoodmbneaaGreatDoorTrnPa
import Derived.Shelf.SlSortCmp.QuietGrown
import Derived.Test.YtpbmmdoodmbneaaGreatDoorSymSpec
import Derived.BigRegion

/- Trips in a row, as numbers: contract of the insertion sort of package slices over trips, in place. -/
namespace Go.Proofs.YtpbmmdoodmbneaaGreatDoor
open Go.RowKit

/-- a row of trips, the trips that numbers stand for -/
def OwnY (T : Int → Trp) (w : World) (B : Nat) (v : Value) (xs : List Int) : Prop := OwnX w B v (xs.map T)
/-- A function value that compares two trips, in every world that differs from W0 in block g and in new blocks alone. -/
def FnCmpY (T : Int → Trp) (fv : Value) (W0 : World) (g : Nat) (D : Int → Prop) (c : Int → Int → Int) : Prop :=
  ∃ F caps, fv = .func (.func F) #[] caps ∧ (∀ args w, (callFunc F args).run Tryz.prog w = .ok (.enter F args) w) ∧
    ∀ x y w', D x → D y → W0.grownBy w' (some g) → Calls Tryz.prog F (#[.agg #[.string (bs (T x).item), .string (bs (T x).truck), .int .i64 (T x).start, .int .i64 (T x).fin], .agg #[.string (bs (T y).item), .string (bs (T y).truck), .int .i64 (T y).start, .int .i64 (T y).fin]] ++ caps) w'
      fun e w'' => e = .returned (.int .i64 (c x y)) ∧ GR w' w''
/-- the cells of a trip, in every world that has grown -/
structure XG (w : World) (b off : Nat) (x : Trp) : Prop where
  c0 : ∀ n os, (Sort.grow (w.drewN n) os).cell? ⟨b, off, none⟩ = some (.string (bs x.item))
  c1 : ∀ n os, (Sort.grow (w.drewN n) os).cell? ⟨b, off + 1, none⟩ = some (.string (bs x.truck))
  c2 : ∀ n os, (Sort.grow (w.drewN n) os).cell? ⟨b, off + 2, none⟩ = some (.int .i64 x.start)
  c3 : ∀ n os, (Sort.grow (w.drewN n) os).cell? ⟨b, off + 3, none⟩ = some (.int .i64 x.fin)
theorem XAt.xg {w : World} {b off : Nat} {x : Trp} (h : XAt w b off x) : XG w b off x := by
  have hb : b < w.heap.size := World.block_lt_of_cell? w _ h.c0
  exact ⟨cell_grown hb h.c0, cell_grown hb h.c1, cell_grown hb h.c2, cell_grown hb h.c3⟩
theorem OwnY.form_n {T : Int → Trp} {w : World} {B g n cap : Nat} {xs : List Int} (h : OwnY T w B (.slice (some ⟨g, 0, none⟩) n cap) xs) : n = xs.length ∧ xs.length ≤ cap := by
  have h' : OwnX w B (.slice (some ⟨g, 0, none⟩) n cap) (xs.map T) := h
  obtain ⟨a, c, he, h1⟩ := h'.form
  simp at he
  simp at h1
  exact ⟨he.2.1, by omega⟩
theorem OwnY.cellg {T : Int → Trp} {w : World} {B g n cap : Nat} {xs : List Int} (h : OwnY T w B (.slice (some ⟨g, 0, none⟩) n cap) xs) {k : Nat} (hk : k < xs.length) : XAt w g (k * 4) (T (gi xs k)) := by
  have h' : OwnX w B (.slice (some ⟨g, 0, none⟩) n cap) (xs.map T) := h
  have := h'.at (i := k) (by simpa using hk)
  have e : tpi (xs.map T) k = T (gi xs k) := by rw [tpi_lt (by simpa using hk), gi_lt hk]; simp
  rwa [e] at this
theorem OwnY.fzg {T : Int → Trp} {w : World} {B g n cap : Nat} {xs : List Int} (h : OwnY T w B (.slice (some ⟨g, 0, none⟩) n cap) xs) (k : Nat) : w.frozen? ⟨g, k, none⟩ = false := by
  obtain ⟨rfl, _⟩ := h.form_n
  have h' : w.ownsRow B 43 4 (.slice (some ⟨g, 0, none⟩) xs.length cap) (xs.map T).length ((xs.map T).flatMap tpCells) := h
  rw [List.length_map] at h'
  exact h'.frozenAt k
/-- a trip is written at a place -/
def setY (w : World) (b o : Nat) (p : Trp) : World := (((w.setCell ⟨b, o, none⟩ (.string (bs p.item))).setCell ⟨b, o + 1, none⟩ (.string (bs p.truck))).setCell ⟨b, o + 2, none⟩ (.int .i64 p.start)).setCell ⟨b, o + 3, none⟩ (.int .i64 p.fin)
theorem setY_grown (w : World) (b o : Nat) (p : Trp) : w.grownBy (setY w b o p) (some b) :=
  grownBy_trans (grownBy_trans (grownBy_trans (grownBy_set _ _ _ _) (grownBy_set _ _ _ _)) (grownBy_set _ _ _ _)) (grownBy_set _ _ _ _)
theorem flat_set {α : Type} (f : α → List Value) {n : Nat} (hf : ∀ x, (f x).length = n) : ∀ (xs : List α) (k : Nat) (x : α) (j : Nat), j < (xs.flatMap f).length → ((xs.set k x).flatMap f)[j]? = if k * n ≤ j ∧ j < k * n + n then (f x)[j - k * n]? else (xs.flatMap f)[j]? := by
  intro xs
  induction xs with
  | nil => intro k x j hj; simp at hj
  | cons y r ih =>
    intro k x j hj
    cases k with
    | zero =>
      rw [List.set_cons_zero, List.flatMap_cons, List.flatMap_cons]
      by_cases h : j < n
      · rw [if_pos (by omega), List.getElem?_append_left (by rw [hf]; exact h)]; simp
      · rw [if_neg (by omega), List.getElem?_append_right (by rw [hf]; omega), List.getElem?_append_right (by rw [hf]; omega), hf, hf]
    | succ k =>
      rw [List.set_cons_succ, List.flatMap_cons, List.flatMap_cons]
      by_cases h : j < n
      · rw [List.getElem?_append_left (by rw [hf]; exact h), List.getElem?_append_left (by rw [hf]; exact h), if_neg (by rw [Nat.succ_mul]; omega)]
      · rw [List.getElem?_append_right (by rw [hf]; omega), List.getElem?_append_right (by rw [hf]; omega), hf]
        rw [List.flatMap_cons, List.length_append, hf] at hj
        rw [ih k x (j - n) (by omega)]
        rw [Nat.succ_mul]
        by_cases h2 : k * n + n ≤ j ∧ j < k * n + n + n
        · rw [if_pos h2, if_pos (by omega), show j - n - k * n = j - (k * n + n) by omega]
        · rw [if_neg h2, if_neg (by omega)]
theorem OwnY.setg {T : Int → Trp} {w : World} {B g n cap : Nat} {xs : List Int} (h : OwnY T w B (.slice (some ⟨g, 0, none⟩) n cap) xs) (k : Nat) (hk : k < xs.length) (x : Int) : OwnY T (setY w g (k * 4) (T x)) B (.slice (some ⟨g, 0, none⟩) n cap) (xs.set k x) := by
  obtain ⟨rfl, _⟩ := h.form_n
  have h' : w.ownsRow B 43 4 (.slice (some ⟨g, 0, none⟩) xs.length cap) (xs.map T).length ((xs.map T).flatMap tpCells) := h
  rw [List.length_map] at h'
  have h1 := (h'.stored (k * 4) (.string (bs (T x).item))).1
  have h2 := (h1.stored (k * 4 + 1) (.string (bs (T x).truck))).1
  have h3 := (h2.stored (k * 4 + 2) (.int .i64 (T x).start)).1
  have h4 := (h3.stored (k * 4 + 3) (.int .i64 (T x).fin)).1
  show World.ownsRow _ _ _ _ _ _ _
  rw [List.length_map, List.length_set]
  have hlen : ((xs.map T).flatMap tpCells).length = xs.length * 4 := by rw [flat_len tpCells tpCells_len]; simp
  have e : ((xs.set k x).map T).flatMap tpCells = ((((((xs.map T).flatMap tpCells).set (k * 4) (.string (bs (T x).item))).set (k * 4 + 1) (.string (bs (T x).truck))).set (k * 4 + 2) (.int .i64 (T x).start)).set (k * 4 + 3) (.int .i64 (T x).fin)) := by
    apply List.ext_getElem?
    intro j
    rw [List.map_set]
    by_cases hj : j < ((xs.map T).flatMap tpCells).length
    · rw [flat_set tpCells tpCells_len _ _ _ j hj]
      simp only [List.getElem?_set, List.length_set]
      by_cases a0 : j = k * 4
      · subst a0; rw [if_pos (by omega), if_neg (by omega), if_neg (by omega), if_neg (by omega), if_pos rfl, if_pos hj]; simp [tpCells]
      · by_cases a1 : j = k * 4 + 1
        · subst a1; rw [if_pos (by omega), if_neg (by omega), if_neg (by omega), if_pos rfl, if_pos hj]; simp [tpCells]
        · by_cases a2 : j = k * 4 + 2
          · subst a2; rw [if_pos (by omega), if_neg (by omega), if_pos rfl, if_pos hj]; simp [tpCells]
          · by_cases a3 : j = k * 4 + 3
            · subst a3; rw [if_pos (by omega), if_pos rfl, if_pos hj]; simp [tpCells]
            · rw [if_neg (by omega), if_neg (by omega), if_neg (by omega), if_neg (by omega), if_neg (by omega)]
    · have hl1 : (((xs.map T).set k (T x)).flatMap tpCells).length = xs.length * 4 := by rw [flat_len tpCells tpCells_len]; simp
      rw [List.getElem?_eq_none (by omega), List.getElem?_eq_none (by simp only [List.length_set]; omega)]
  rw [e]
  exact h4
theorem OwnY.below {T : Int → Trp} {w w' : World} {B : Nat} {v : Value} {xs : List Int} (h : OwnY T w B v xs) (hb : Below w.heap.size w w') : OwnY T w' B v xs := owns_below h hb
theorem OwnY.gr {T : Int → Trp} {w w' : World} {B : Nat} {v : Value} {xs : List Int} (h : OwnY T w B v xs) (hb : GR w w') : OwnY T w' B v xs := h.below hb.below
theorem OwnY.drew {T : Int → Trp} {w : World} {B : Nat} {v : Value} {xs : List Int} (h : OwnY T w B v xs) : OwnY T w.drew B v xs := h
theorem grownBy_drew {a b : World} {row : Option Nat} (h : a.grownBy b row) : a.grownBy b.drew row := ⟨h.os, h.tape, h.output, h.size, h.block⟩
theorem grownBy_gr {a b c : World} {row : Option Nat} (h : a.grownBy b row) (k : GR b c) : a.grownBy c row := grownBy_trans h (grownBy_of_below k.below row)
theorem gr_of (w : World) (n : Nat) (os : Array Obj) : GR w (Sort.grow (w.drewN n) os) := ⟨n, os, rfl⟩

/-- what the sort leaves -/
def PostSY (T : Int → Trp) (w : World) (B g n cap : Nat) (lt : Int → Int → Bool) (xs : List Int) (a b : Nat) (e : Ending) (w' : World) : Prop :=
  e = .returned (.tuple #[]) ∧ w.grownBy w' (some g) ∧ ∃ ys, OwnY T w' B (.slice (some ⟨g, 0, none⟩) n cap) ys ∧ Rearr lt xs ys ∧ SameOut xs ys a b ∧ SortedOn lt ys a b
end Go.Proofs.YtpbmmdoodmbneaaGreatDoor

/- Contract: the insertion sort of package slices over trips, in place. -/
namespace Go.Proofs.YtpbmmdoodmbneaaGreatDoor
open Go.RowKit

set_option maxHeartbeats 2000000 in
theorem insY_any (T : Int → Trp) (fv : Value) (D : Int → Prop) (c : Int → Int → Int) (w : World) (B g n cap : Nat) (xs : List Int) (a b : Nat) (ho : OwnY T w B (.slice (some ⟨g, 0, none⟩) n cap) xs)
    (hf : FnCmpY T fv w g D c) (hO : SWO D (ltOf c)) (hD : ∀ x ∈ xs, D x) (hab : a ≤ b) (hb : b ≤ xs.length) (hl : xs.length ≤ 100000) :
    Calls Tryz.prog 66 #[.slice (some ⟨g, 0, none⟩) n cap, .int .i64 a, .int .i64 b, fv] w (PostSY T w B g n cap (ltOf c) xs a b) := by
  have mxd : Tryz.prog.follows .mixedOrders = true := mixed
  obtain ⟨F, caps, rfl, hcf, hf⟩ := hf
  have HF := Lib.hid hf; clear hf
  have HO := Lib.hid ho; clear ho
  have HOO := Lib.hid hO; clear hO
  have HD := Lib.hid hD; clear hD
  obtain ⟨rfl, hcapn⟩ := HO.out.form_n
  go_enter Tryz.func66, Tryz.ntmps66
  go_wp2_with fail
  go_loopw [8] (fun i wr => ∃ k : Nat, a + 1 ≤ k ∧ (k ≤ b ∨ b = a) ∧ i = .int .i64 k ∧ Hid (w.grownBy wr (some g)) ∧ Hid (∃ ys, OwnY T wr B (.slice (some ⟨g, 0, none⟩) xs.length cap) ys ∧ Rearr (ltOf c) xs ys ∧ SameOut xs ys a k ∧ SortedOn (ltOf c) ys a k ∧ (b = a → ys = xs))) (fun i _ => b - (intOf i).toNat)
  case atStart => exact ⟨a + 1, Nat.le_refl _, by omega, by go_num, World.grownBy.refl _ _, xs, HO.out, .refl _, .refl _ _ _, fun k l h1 h2 h3 => by omega, fun _ => rfl⟩
  case round =>
    obtain ⟨wo, rfl⟩ : ∃ wo : World, wo = wr := ⟨_, rfl⟩
    obtain ⟨i, hi1, hi2, rfl, hg, hys⟩ := hrel
    by_cases hlt : i < b
    · obtain ⟨ys, ho1, hr1, hs1, hso1, _⟩ := hys.out
      have HI := Lib.hid (Ins.start hr1 hs1 hso1)
      have HO1 := Lib.hid ho1
      clear hys ho1 hr1 hs1 hso1
      go_wp2_with fail
      go_loopw [9] (fun j w2 => ∃ k : Nat, a ≤ k ∧ k ≤ i ∧ j = .int .i64 k ∧ Hid (w.grownBy w2 (some g)) ∧ Hid (∃ zs, OwnY T w2 B (.slice (some ⟨g, 0, none⟩) xs.length cap) zs ∧ Ins (ltOf c) xs zs a i k)) (fun j _ => (intOf j).toNat)
      case atStart => exact ⟨i, by omega, Nat.le_refl _, rfl, hg, ys, HO1.out, HI.out⟩
      case round =>
        obtain ⟨j, hj1, hj2, rfl, hg2, hzs⟩ := hrel
        obtain ⟨zs, ho2, hins⟩ := hzs.out
        have hlz : zs.length = xs.length := hins.re.length
        have HDZ : Hid (∀ k, k < zs.length → D (gi zs k)) := fun k hk => HD.out _ (hins.re.perm.mem_iff.1 (gi_mem hk))
        have HO2 := Lib.hid ho2
        have HINS := Lib.hid hins
        clear hzs ho2 hins
        have HLZ := Lib.hid hlz
        by_cases hja : a < j
        · obtain ⟨p, rfl⟩ : ∃ p, j = p + 1 := ⟨j - 1, by omega⟩
          have hjz : p + 1 < zs.length := by omega
          have i1 : (0 : Int) ≤ (p : Int) + 1 := by omega
          have i2 : (p : Int) + 1 < xs.length := by omega
          have i4 : (p : Int) + 1 < cap := by omega
          have i5 : (p : Int) < xs.length := by omega
          have i6 : (p : Int) < cap := by omega
          have hw : IntKind.i64.wrap (p : Int) = (p : Int) := IntWalk.i64_in _ (by omega)
          have ht : ((p : Int) + 1).toNat = p + 1 := by omega
          have hjB : (a : Int) < (p : Int) + 1 := by omega
          clear hlz
          obtain ⟨a0, a1, a2, a3⟩ := (HO2.out.cellg hjz).xg
          obtain ⟨b0, b1, b2, b3⟩ := (HO2.out.cellg (show p < zs.length by omega)).xg
          have HCC : Hid (∀ w', w.grownBy w' (some g) → Calls Tryz.prog F (#[.agg #[.string (bs (T (gi zs (p + 1))).item), .string (bs (T (gi zs (p + 1))).truck), .int .i64 (T (gi zs (p + 1))).start, .int .i64 (T (gi zs (p + 1))).fin], .agg #[.string (bs (T (gi zs p)).item), .string (bs (T (gi zs p)).truck), .int .i64 (T (gi zs p)).start, .int .i64 (T (gi zs p)).fin]] ++ caps) w' fun e w'' => e = .returned (.int .i64 (c (gi zs (p + 1)) (gi zs p))) ∧ GR w' w'') := fun w' h => HF.out (gi zs (p + 1)) (gi zs p) w' (HDZ.out (p + 1) hjz) (HDZ.out p (by omega)) h
          cases hlt2 : ltOf c (gi zs (p + 1)) (gi zs p)
          · have hcb : decide (c (gi zs (p + 1)) (gi zs p) < 0) = false := hlt2
            have HST := Lib.hid (HINS.out.stop HOO.out HDZ.out (by have := HLZ.out; omega) hj1 hj2 (.inr ⟨hja, hlt2⟩))
            clear hlt2
            go_wp2_with fail
            go_quiet_grown (exact Calls.grown_of (HCC.out _ (grownBy_gr hg2.out (gr_of _ _ _))))
            go_wp2_with fail
            go_roundw
            case rel => exact ⟨i + 1, by omega, by omega, by go_num, grownBy_gr hg2.out (gr_of _ _ _), zs, HO2.out.gr (gr_of _ _ _), HST.out.1, HST.out.2.1, HST.out.2.2, fun _ => by omega⟩
            case measure => simp [intOf]; omega
          · have hcb : decide (c (gi zs (p + 1)) (gi zs p) < 0) = true := hlt2
            have HNX := Lib.hid (Ins.next (j := p) HOO.out HINS.out HDZ.out (by have := HLZ.out; omega) (by omega) (by omega) hlt2)
            clear hlt2
            go_wp2_with fail
            go_quiet_grown (exact Calls.grown_of (HCC.out _ (grownBy_gr hg2.out (gr_of _ _ _))))
            have HGQ := Lib.hid (gr_of wr nq osq)
            generalize Sort.grow (wr.drewN nq) osq = wq at *
            have HOQ := Lib.hid (HO2.out.gr HGQ.out)
            have fz := HOQ.out.fzg
            obtain ⟨d0, d1, d2, d3⟩ := HOQ.out.cellg hjz
            obtain ⟨e0, e1, e2, e3⟩ := HOQ.out.cellg (show p < zs.length by omega)
            clear a0 a1 a2 a3 b0 b1 b2 b3
            go_wp2_with fail
            go_region
            go_wp2_with fail
            go_roundw
            case rel =>
              refine ⟨p, by omega, by omega, rfl, grownBy_trans (grownBy_gr hg2.out HGQ.out) (grownBy_drew (grownBy_trans (setY_grown _ _ _ _) (setY_grown _ _ _ _))), swapAt zs (p + 1) p, ?_, HNX.out⟩
              exact ((HOQ.out.setg (p + 1) hjz _).setg p (by rw [List.length_set]; omega) _).drew
            case measure => simp [intOf]
        · have hjB : decide ((a : Int) < (j : Int)) = false := by rw [decide_eq_false_iff_not]; omega
          have HST := Lib.hid (HINS.out.stop HOO.out HDZ.out (by have := HLZ.out; omega) hj1 hj2 (.inl (by omega)))
          go_wp2_with fail
          go_quiet (fail)
          go_wp2_with fail
          go_roundw
          case rel => exact ⟨i + 1, by omega, by omega, by go_num, grownBy_gr hg2.out ((GR.refl _).drewN _), zs, HO2.out.gr ((GR.refl _).drewN _), HST.out.1, HST.out.2.1, HST.out.2.2, fun _ => by omega⟩
          case measure => simp [intOf]; omega
    · obtain ⟨ys, ho1, hr1, hs1, hso1, hab1⟩ := hys.out
      have HR : Hid (Rearr (ltOf c) xs ys ∧ SameOut xs ys a b ∧ SortedOn (ltOf c) ys a b) := by
        refine ⟨hr1, ?_, fun k l h1 h2 h3 => hso1 k l h1 h2 (by omega)⟩
        by_cases e : b = a
        · rw [hab1 e]; exact .refl _ _ _
        · have : i = b := by omega
          subst this; exact hs1
      have HO1 := Lib.hid ho1
      clear hys ho1 hr1 hs1 hso1 hab1
      go_wp2_with fail
      refine bodyPost_ret (v := .tuple #[]) (results_none Tryz.results66 _ _ _) rfl ?_
      exact ⟨rfl, hg.out, ys, HO1.out, HR.out⟩
end Go.Proofs.YtpbmmdoodmbneaaGreatDoor

/- Contracts: swapRange and rotate of package slices over trips, in place. -/
namespace Go.Proofs.YtpbmmdoodmbneaaGreatDoor
open Go.RowKit

/-- it leaves ys -/
def PostWY (T : Int → Trp) (w : World) (B g n cap : Nat) (ys : List Int) (e : Ending) (w' : World) : Prop :=
  e = .returned (.tuple #[]) ∧ w.grownBy w' (some g) ∧ OwnY T w' B (.slice (some ⟨g, 0, none⟩) n cap) ys

set_option maxHeartbeats 1000000 in
theorem swapY_nat (T : Int → Trp) (fv : Value) (w : World) (B g n cap : Nat) (xs : List Int) (a b c : Nat) (ho : OwnY T w B (.slice (some ⟨g, 0, none⟩) n cap) xs) (h2 : a + c ≤ b) (h3 : b + c ≤ xs.length) (hl : xs.length ≤ 100000) :
    Calls Tryz.prog 93 #[.slice (some ⟨g, 0, none⟩) n cap, .int .i64 a, .int .i64 b, .int .i64 c, fv] w (PostWY T w B g n cap (swp xs a b c)) := by
  obtain ⟨rfl, hcap⟩ := ho.form_n
  have HO := Lib.hid ho
  clear ho
  go_enter Tryz.func93, Tryz.ntmps93
  go_wp2_with fail
  go_loopw [10] (fun i wr => ∃ k : Nat, k ≤ c ∧ i = .int .i64 k ∧ Hid (w.grownBy wr (some g)) ∧ Hid (OwnY T wr B (.slice (some ⟨g, 0, none⟩) xs.length cap) (swp xs a b k))) (fun i _ => c - (intOf i).toNat)
  case atStart => exact ⟨0, Nat.zero_le _, rfl, World.grownBy.refl _ _, by rw [swp_zero]; exact HO.out⟩
  case round =>
    obtain ⟨k, hk, rfl, hg, hw⟩ := hrel
    by_cases hlt : k < c
    · have hz := Lib.hid (swp_length xs a b k)
      obtain ⟨d0, d1, d2, d3⟩ := hw.out.cellg (k := a + k) (by rw [hz.out]; omega)
      obtain ⟨e0, e1, e2, e3⟩ := hw.out.cellg (k := b + k) (by rw [hz.out]; omega)
      have fz := hw.out.fzg
      have hz1 : (a + k) < (swp xs a b k).length := by rw [hz.out]; omega
      have hz2 : (b + k) < (swp xs a b k).length := by rw [hz.out]; omega
      have HZ1 := Lib.hid hz1
      have HZ2 := Lib.hid hz2
      clear hz1 hz2
      have HS := Lib.hid (swp_succ (xs := xs) (a := a) (b := b) (n := k) (by omega) (by omega))
      have i1 : (a : Int) + k < xs.length := by omega
      have i2 : (b : Int) + k < xs.length := by omega
      have i3 : (a : Int) + k < cap := by omega
      have i4 : (b : Int) + k < cap := by omega
      have q1 : IntKind.i64.wrap ((a : Int) + k) = (a : Int) + k := IntWalk.i64_in _ (by omega)
      have q2 : IntKind.i64.wrap ((b : Int) + k) = (b : Int) + k := IntWalk.i64_in _ (by omega)
      have q3 : ((a : Int) + k).toNat = a + k := by omega
      have q4 : ((b : Int) + k).toNat = b + k := by omega
      have n1 : (0 : Int) ≤ (a : Int) + k := by omega
      have n2 : (0 : Int) ≤ (b : Int) + k := by omega
      go_wp2_with fail
      go_region
      go_wp2_with fail
      go_roundw
      case rel => 
        refine ⟨k + 1, by omega, by go_num, grownBy_trans hg.out (grownBy_drew (grownBy_trans (setY_grown _ _ _ _) (setY_grown _ _ _ _))), ?_⟩
        rw [← HS.out]
        exact ((hw.out.setg (a + k) HZ1.out _).setg (b + k) (by rw [List.length_set]; exact HZ2.out) _).drew
      case measure => simp [intOf]; omega
    · obtain rfl : k = c := by omega
      go_wp2_with fail
      refine bodyPost_end (results_none Tryz.results93 _ _ _) rfl ?_
      exact ⟨rfl, hg.out, hw.out⟩

theorem swapY_any (T : Int → Trp) (fv : Value) (w : World) (B g n cap : Nat) (xs : List Int) (a b c : Int) (a' b' c' : Nat) (ha : a = a') (hb : b = b') (hc : c = c') (ho : OwnY T w B (.slice (some ⟨g, 0, none⟩) n cap) xs) (h2 : a' + c' ≤ b') (h3 : b' + c' ≤ xs.length) (hl : xs.length ≤ 100000) :
    Calls Tryz.prog 93 #[.slice (some ⟨g, 0, none⟩) n cap, .int .i64 a, .int .i64 b, .int .i64 c, fv] w (PostWY T w B g n cap (swp xs a' b' c')) := by
  subst ha hb hc
  exact swapY_nat T fv w B g n cap xs a' b' c' ho h2 h3 hl

set_option maxHeartbeats 1000000 in
theorem rotY_any (T : Int → Trp) (fv : Value) (w : World) (B g n cap : Nat) (xs : List Int) (a m b : Nat) (ho : OwnY T w B (.slice (some ⟨g, 0, none⟩) n cap) xs) (h1 : a < m) (h2 : m < b) (h3 : b ≤ xs.length) (hl : xs.length ≤ 100000) :
    Calls Tryz.prog 84 #[.slice (some ⟨g, 0, none⟩) n cap, .int .i64 a, .int .i64 m, .int .i64 b, fv] w (PostWY T w B g n cap (rot xs a m b)) := by
  have HO := Lib.hid ho
  clear ho
  go_enter Tryz.func84, Tryz.ntmps84
  go_wp2_with fail
  go_loopw [10, 11] (fun i j wr => ∃ p q : Nat, 1 ≤ p ∧ 1 ≤ q ∧ p ≤ m - a ∧ q ≤ b - m ∧ i = .int .i64 p ∧ j = .int .i64 q ∧ Hid (w.grownBy wr (some g)) ∧ Hid (∃ ys, ys.length = xs.length ∧ OwnY T wr B (.slice (some ⟨g, 0, none⟩) n cap) ys ∧ rot ys (m - p) m (m + q) = rot xs a m b)) (fun i j _ => (intOf i).toNat + (intOf j).toNat)
  case atStart => exact ⟨m - a, b - m, by omega, by omega, Nat.le_refl _, Nat.le_refl _, by go_num, by go_num, World.grownBy.refl _ _, xs, rfl, HO.out, by rw [show m - (m - a) = a by omega, show m + (b - m) = b by omega]⟩
  case round =>
    obtain ⟨p, q, hp1, hq1, hp2, hq2, rfl, rfl, hg, hys⟩ := hrel
    obtain ⟨ys, hl1, ho1, hr1⟩ := hys.out
    have HL := Lib.hid hl1
    have HO1 := Lib.hid ho1
    have HR := Lib.hid hr1
    clear hys hl1 ho1 hr1
    rcases Nat.lt_trichotomy p q with hpq | hpq | hpq
    · have b1 : ((p : Int) != (q : Int)) = true := by rw [bne_iff_ne]; omega
      have b2 : decide ((q : Int) < (p : Int)) = false := by rw [decide_eq_false_iff_not]; omega
      go_wp2_with fail
      refine (swapY_any T _ _ B g n cap ys _ _ _ (m - p) (m + q - p) p (by omega) (by omega) rfl HO1.out (by omega) (by have := HL.out; omega) (by have := HL.out; omega)).mono ?_
      rintro e w1 ⟨rfl, hg1, ho1⟩
      have HG1 := Lib.hid hg1
      have HO2 := Lib.hid ho1
      clear hg1 ho1
      go_wp2_with fail
      go_roundw
      case rel =>
        refine ⟨p, q - p, hp1, by omega, hp2, by omega, rfl, by go_num, grownBy_trans hg.out HG1.out, _, ?_, HO2.out, ?_⟩
        · rw [swp_length]; exact HL.out
        · rw [rot_lt (by omega) (by omega) (by have := HL.out; omega)]; exact HR.out
      case measure => simp [intOf]; omega
    · subst hpq
      have b1 : ((p : Int) != (p : Int)) = false := by simp
      go_wp2_with fail
      refine (swapY_any T _ _ B g n cap ys _ _ _ (m - p) m p (by omega) rfl rfl HO1.out (by omega) (by have := HL.out; omega) (by have := HL.out; omega)).mono ?_
      rintro e w1 ⟨rfl, hg1, ho1⟩
      have HG1 := Lib.hid hg1
      have HO2 := Lib.hid ho1
      clear hg1 ho1
      go_wp2_with fail
      refine bodyPost_end (results_none Tryz.results84 _ _ _) rfl ?_
      refine ⟨rfl, grownBy_trans hg.out HG1.out, ?_⟩
      rw [← HR.out, ← rot_eq (by omega) (by have := HL.out; omega)]
      exact HO2.out
    · have b1 : ((p : Int) != (q : Int)) = true := by rw [bne_iff_ne]; omega
      have b2 : decide ((q : Int) < (p : Int)) = true := by rw [decide_eq_true_eq]; omega
      go_wp2_with fail
      refine (swapY_any T _ _ B g n cap ys _ _ _ (m - p) m q (by omega) rfl rfl HO1.out (by omega) (by have := HL.out; omega) (by have := HL.out; omega)).mono ?_
      rintro e w1 ⟨rfl, hg1, ho1⟩
      have HG1 := Lib.hid hg1
      have HO2 := Lib.hid ho1
      clear hg1 ho1
      go_wp2_with fail
      go_roundw
      case rel =>
        refine ⟨p - q, q, by omega, hq1, by omega, hq2, by go_num, rfl, grownBy_trans hg.out HG1.out, _, ?_, HO2.out, ?_⟩
        · rw [swp_length]; exact HL.out
        · rw [rot_gt (by omega) (by omega) (by have := HL.out; omega)]; exact HR.out
      case measure => simp [intOf]; omega
end Go.Proofs.YtpbmmdoodmbneaaGreatDoor
