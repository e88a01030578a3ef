/- Contracts: slices.ContainsFunc over shifts, Works. -/
import Derived.Test.YtbjnpiaooehmjaaDoorCalA
import Derived.Test.YtbjnpiaooehmjaaDoorShelf
namespace Go.Proofs.YtbjnpiaooehmjaaDoor
open Go.RowKit

/-- A function value that answers a predicate of one shift, in every world that keeps what W0 has. -/
def FnS (fv : Value) (W0 : World) (p : Sp → Bool) : Prop :=
  ∃ F caps, fv = .func (.func F) #[] caps ∧ (∀ args w, (callFunc F args).run Tryd.prog w = .ok (.enter F args) w) ∧
    ∀ (x : Sp) (w : World), Below W0.heap.size W0 w → Calls Tryd.prog F (#[.agg #[.int .i64 x.a, .int .i64 x.b]] ++ caps) w (Ret w (.bool (p x)))

/-- the first index at which p holds, else -1 -/
def findS (p : Sp → Bool) (xs : List Sp) : Int := match xs.findIdx? p with | some i => i | none => -1
theorem findS_hit (p : Sp → Bool) (xs : List Sp) (k : Nat) (hk : k < xs.length) (h1 : ∀ j, j < k → p (pi2 xs j) = false) (h2 : p (pi2 xs k) = true) : findS p xs = k := by
  have : xs.findIdx? p = some k := by
    rw [List.findIdx?_eq_some_iff_getElem]
    refine ⟨hk, ?_, ?_⟩
    · rw [← pi2_lt hk]; exact h2
    · intro j hj
      have := h1 j hj
      rw [pi2_lt (show j < xs.length by omega)] at this
      simp [this]
  simp [findS, this]
theorem findS_miss (p : Sp → Bool) (xs : List Sp) (h1 : ∀ j, j < xs.length → p (pi2 xs j) = false) : findS p xs = -1 := by
  have : xs.findIdx? p = none := by
    rw [List.findIdx?_eq_none_iff]
    intro x hx
    obtain ⟨j, hj, rfl⟩ := List.mem_iff_getElem.1 hx
    have := h1 j hj
    rwa [pi2_lt hj] at this
  simp [findS, this]
theorem findS_any (p : Sp → Bool) (xs : List Sp) : decide (0 ≤ findS p xs) = xs.any p := by
  rw [Bool.eq_iff_iff, decide_eq_true_eq]
  simp only [findS]
  cases hh : xs.findIdx? p with
  | none => rw [List.findIdx?_eq_none_iff] at hh; simp; intro x hx; simpa using hh x hx
  | some i => rw [List.findIdx?_eq_some_iff_getElem] at hh; obtain ⟨h1, h2, _⟩ := hh; simp; exact ⟨_, List.getElem_mem h1, h2⟩

set_option maxHeartbeats 800000 in
theorem indexFunc_sp (fv v : Value) (p : Sp → Bool) (xs : List Sp) (w : World) (h : SP w v xs) (hf : FnS fv w p) :
    Calls Tryd.prog 33 #[v, fv] w (Ret w (.int .i64 (findS p xs))) := by
  obtain ⟨F, caps, rfl, hcf, hf⟩ := hf
  obtain ⟨a, cap, rfl, h1, h2, h3⟩ := h
  have HF := Lib.hid hf; clear hf
  have H3 := Lib.hid h3; clear h3
  have hm : xs.length ≤ 9223372036854775807 := by unfold maxLen at h2; omega
  go_enter Tryd.func33, Tryd.ntmps33
  go_wp2
  go_loopw [8] (fun i wr => ∃ k : Nat, k ≤ xs.length ∧ i = .int .i64 k ∧ Hid (Below w.heap.size w wr) ∧ Hid (∀ j, j < k → p (pi2 xs j) = false)) (fun i _ => xs.length - (intOf i).toNat)
  case atStart => exact ⟨0, Nat.zero_le _, rfl, Lib.hid (Below.refl _ _), Lib.hid fun j hj => by omega⟩
  case round =>
    obtain ⟨k, hk, rfl, hb, hj⟩ := hrel
    by_cases hlt : k < xs.length
    · obtain ⟨b, off, ha, hc⟩ := H3.out k hlt
      rw [ha]
      have hc' := hc.keep hb.out
      have c0 := hc'.c0
      have c1 := hc'.c1
      clear hc hc'
      go_wp2_with fail
      refine (HF.out (pi2 xs k) _ hb.out).mono ?_
      rintro e w1 ⟨rfl, hb1⟩
      have HB1 := Lib.hid (ext_trans hb.out hb1)
      clear hb1 c0 c1
      generalize hx : p (pi2 xs k) = x
      have HX := Lib.hid hx; clear hx
      cases x
      · go_wp2_with fail
        go_roundw
        case rel =>
          refine ⟨k+1, by omega, by go_num, HB1, Lib.hid ?_⟩
          intro j hjk
          by_cases e : j = k
          · subst e; exact HX.out
          · exact hj.out j (by omega)
        case measure => simp [intOf]; omega
      · go_wp2_with fail
        go_ret
        exact ⟨ret_int (findS_hit p xs k hlt hj.out HX.out).symm, HB1.out⟩
    · go_wp2_with fail
      go_ret
      exact ⟨ret_int (findS_miss p xs (fun j h => hj.out j (by omega))).symm, hb.out⟩

theorem containsFunc_sp (fv v : Value) (p : Sp → Bool) (xs : List Sp) (w : World) (h : SP w v xs) (hf : FnS fv w p) :
    Calls Tryd.prog 20 #[v, fv] w (Ret w (.bool (xs.any p))) := by
  have HI := Lib.hid (indexFunc_sp fv v p xs w h hf); clear h hf
  have HZ := Lib.hid (findS_any p xs)
  go_enter Tryd.func20, Tryd.ntmps20
  go_wp2_with fail
  refine HI.out.mono ?_
  rintro e w1 ⟨rfl, hb⟩
  go_wp2_with fail
  go_ret
  exact ⟨ret_bool HZ.out, hb⟩

/-- is an hour in a shift? -/
def inS (h : Int) (s : Sp) : Bool := decide (s.a ≤ h) && decide (h < s.b)
theorem enter_inS : ∀ args w, (callFunc 21 args).run Tryd.prog w = .ok (.enter 21 args) w := enters_of Tryd.func21 (by kernel_rfl) rfl
theorem inS_any (x : Sp) (h : Int) (b : Nat) (w : World) (hc : w.cell? ⟨b, 0, none⟩ = some (.int .i64 h)) :
    Calls Tryd.prog 21 #[.agg #[.int .i64 x.a, .int .i64 x.b], .pointer (some ⟨b, 0, none⟩)] w (Ret w (.bool (inS h x))) := by
  have hbl := World.block_lt_of_cell? w _ hc
  by_cases h1 : x.a ≤ h
  · have d1 : decide (x.a ≤ h) = true := by simpa using h1
    have HT := Lib.hid (show inS h x = decide (h < x.b) by unfold inS; rw [d1, Bool.true_and])
    go_enter Tryd.func21, Tryd.ntmps21
    go_wp2_with fail
    go_ret
    exact ⟨ret_bool HT.out.symm, (Below.refl _ _).alloc (Nat.le_refl _) _⟩
  · have d1 : decide (x.a ≤ h) = false := by simpa using h1
    have HT := Lib.hid (show inS h x = false by unfold inS; rw [d1, Bool.false_and])
    go_enter Tryd.func21, Tryd.ntmps21
    go_wp2_with fail
    go_ret
    exact ⟨ret_bool HT.out.symm, (Below.refl _ _).alloc (Nat.le_refl _) _⟩

theorem below_q {w w' : World} (h : ∃ q, w' = w.drewN q) : Below w.heap.size w w' := by
  obtain ⟨q, rfl⟩ := h; exact below_drewN' (Below.refl _ _) q
/-! closed days -/
theorem okC_sorted : ∀ (cl : List Int) (p : Int), OkC p cl → cl.Pairwise (· ≤ ·) := by
  intro cl
  induction cl with
  | nil => intro p _; exact List.Pairwise.nil
  | cons d r ih =>
    intro p h
    obtain ⟨_, _, _, h4⟩ := h
    exact List.Pairwise.cons (fun x hx => by have := h4.mem x hx; omega) (ih d h4)
theorem bsearch_any (v : Value) (cl : List Int) (x : Int) (w : World) (h : SI w v cl) (hs : cl.Pairwise (· ≤ ·)) (hl : cl.length ≤ 400) :
    Calls Tryd.prog 19 #[v, .int .i64 x] w fun e w' => ∃ n : Nat, e = .returned (.tuple #[.int .i64 n, .bool (cl.contains x)]) ∧ ∃ q, w' = w.drewN q := by
  obtain ⟨a, cap, rfl, h1, h2, h3⟩ := h
  by_cases h0 : cl.length = 0
  · have : cl = [] := List.eq_nil_of_length_eq_zero h0
    subst this
    refine (Tryd.slices_BinarySearch_int_empty a cap x w).mono ?_
    rintro e w' ⟨rfl, rfl⟩
    exact ⟨0, rfl, 0, rfl⟩
  · obtain ⟨b, off, rfl, hc⟩ := Sl.at h3 (show 0 < cl.length by omega)
    have key := Tryd.slices_BinarySearch_int b off cl.length cap cl x w (Nat.le_refl _) (by omega) hc (by rwa [List.take_length])
    rw [List.take_length] at key
    refine key.mono ?_
    rintro e w' ⟨rfl, q, rfl⟩
    exact ⟨_, rfl, q, rfl⟩
theorem contains_clD {cl : List Int} {t : Int} (h : 0 ≤ t) : cl.contains t = clD cl t.toNat := by
  unfold clD
  rw [Bool.eq_iff_iff, List.contains_iff_mem, List.any_eq_true]
  constructor
  · intro hm; exact ⟨t, hm, by simp; omega⟩
  · rintro ⟨x, hx, e⟩
    simp at e
    rw [show t = x by omega]; exact hx

set_option maxHeartbeats 800000 in
theorem Works_any (v : Value) (sh : List Sp) (cl : List Int) (t : Int) (w : World) (h : CalP w v sh cl) (hg : Good sh cl) :
    Calls Tryd.prog 10 #[v, .int .i64 t] w (Ret w (.bool (workB sh cl t))) := by
  obtain ⟨B, sv, cv, rfl, c0, c1, hsp, hsi⟩ := h
  have hbl := World.block_lt_of_cell? w _ c0
  have HT := Lib.hid (time_any t w)
  cases ht : timeB t with
  | false =>
    have hw : workB sh cl t = false := by unfold timeB at ht; unfold workB; rw [ht, Bool.false_and]
    rw [hw]
    rw [ht] at HT
    clear hsp hsi
    go_enter Tryd.func10, Tryd.ntmps10
    go_wp2_with fail
    refine HT.out.mono ?_
    rintro e w1 ⟨rfl, rfl⟩
    go_wp2_with fail
    go_ret
    exact ⟨rfl, Below.refl _ _⟩
  | true =>
    rw [ht] at HT
    have ht2 : 0 ≤ t ∧ t ≤ 1048576 := by unfold timeB at ht; simpa using ht
    have hw : workB sh cl t = (!cl.contains (t / 24) && sh.any (inS (t % 168))) := by
      unfold timeB at ht
      unfold workB
      rw [ht, Bool.true_and, contains_clD (by omega), Bool.and_comm]
      unfold wk fW hW inS
      rw [show (t / 24).toNat = t.toNat / 24 by omega]
      rw [show ((t.toNat % 168 : Nat) : Int) = t % 168 by omega]
    have HW := Lib.hid hw
    clear hw ht
    have HBS := Lib.hid (bsearch_any cv cl (t / 24) w hsi (okC_sorted cl _ hg.oc) hg.n3)
    have HSP := Lib.hid hsp
    clear hsp hsi
    generalize hcon : cl.contains (t / 24) = c at HBS HW
    clear hcon
    have q1 : t.tdiv 24 = t / 24 := by rw [Int.tdiv_eq_ediv_of_nonneg ht2.1]
    have q2 : t.tmod 168 = t % 168 := by rw [Int.tmod_eq_emod_of_nonneg ht2.1]
    obtain ⟨s1, s2, s3, rfl⟩ : ∃ a n c, sv = .slice a n c := by obtain ⟨a, cap, rfl, _⟩ := HSP.out; exact ⟨_, _, _, rfl⟩
    have m1 : 0 ≤ t % 168 ∧ t % 168 < 168 := by omega
    have m2 : 0 ≤ t / 24 ∧ t / 24 ≤ 43690 := by omega
    cases c with
    | true =>
      go_enter Tryd.func10, Tryd.ntmps10
      go_wp2_with fail
      refine HT.out.mono ?_
      rintro e w1 ⟨rfl, rfl⟩
      go_wp2_with fail
      refine HBS.out.mono ?_
      rintro e w2 ⟨n, rfl, hq⟩
      have HB := Lib.hid (below_q hq)
      clear hq
      go_wp2_with fail
      go_ret
      exact ⟨ret_bool (by rw [HW.out]; rfl), HB.out⟩
    | false =>
      have HCF : ∀ w2 : World, Below w.heap.size w w2 → Hid (Calls Tryd.prog 20 #[.slice s1 s2 s3, .func (.func 21) #[] #[.pointer (some ⟨w2.heap.size, 0, none⟩)]] (w2.alloc (.cells #[.int .i64 (t % 168)] 3)) (Ret (w2.alloc (.cells #[.int .i64 (t % 168)] 3)) (.bool (sh.any (inS (t % 168)))))) := fun w2 hb2 => by
        refine Lib.hid (containsFunc_sp _ _ _ _ _ (HSP.out.keep (below_alloc hb2 _)) ⟨_, _, rfl, enter_inS, fun x w3 hb3 => ?_⟩)
        refine inS_any x (t % 168) w2.heap.size w3 (cell_keep hb3 ?_)
        have := cell_of_row (w2.alloc (.cells #[.int .i64 (t % 168)] 3)) w2.heap.size 0 #[.int .i64 (t % 168)] 3 (0, 0) (MapKept.heap_alloc w2 _).1
        rw [this]; rfl
      go_enter Tryd.func10, Tryd.ntmps10
      go_wp2_with fail
      refine HT.out.mono ?_
      rintro e w1 ⟨rfl, rfl⟩
      go_wp2_with fail
      refine HBS.out.mono ?_
      rintro e w2 ⟨n, rfl, hq⟩
      have hb2 := below_q hq
      have HB2 := Lib.hid hb2
      have d0 := cell_keep hb2 c0
      have d1 := cell_keep hb2 c1
      have hbl2 : B < w2.heap.size := World.block_lt_of_cell? w2 _ d0
      clear hq hb2
      go_wp2_with fail
      refine (HCF w2 HB2.out).out.mono ?_
      rintro e w3 ⟨rfl, hb⟩
      go_wp2_with fail
      go_ret
      exact ⟨ret_bool (by rw [HW.out]; rfl), HB2.out.trans (((Below.refl _ _).alloc (Nat.le_refl _) _ |> fun h => ext_trans h hb).mono HB2.out.size)⟩
end Go.Proofs.YtbjnpiaooehmjaaDoor
