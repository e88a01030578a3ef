/- Contract: Covers of certify. -/
import Derived.Test.YtehbnckdllbmgaaGreatDoorCerE
import Derived.Test.YtehbnckdllbmgaaGreatDoorShelfS
import Derived.Test.YtehbnckdllbmgaaGreatDoorShelf
set_option linter.unusedSimpArgs false
set_option linter.unusedVariables false
namespace Go.Proofs.YtehbnckdllbmgaaGreatDoor
open Go.RowKit Go.Sort

/-- rows that do not lie in block g -/
abbrev RowX (w : World) (g : Nat) := { x : Value × List Int // SI w x.1 x.2 ∧ InS (fun k => k ≠ g ∧ k < w.heap.size) x.1 }
instance (w : World) (g : Nat) : Inhabited (RowX w g) := ⟨⟨(.slice none 0 0, []), SI_nil _, fun a n c h => by cases h⟩⟩
def encR {w : World} {g : Nat} (x : RowX w g) : Value := x.1.1
def cmpR {w : World} {g : Nat} (x y : RowX w g) : Int := cmpL x.1.2 y.1.2
theorem swo_rows (w : World) (g : Nat) : SWO (ltOf (cmpR (w := w) (g := g))) := by
  refine ⟨fun x => ?_, fun x y z h1 h2 => ?_, fun x y z h1 h2 => ?_⟩
  · unfold ltOf cmpR; rw [cmpL_refl]; rfl
  · unfold ltOf cmpR at *
    rw [decide_eq_true_eq] at *
    have a1 := cmpL_tr x.1.2 y.1.2 z.1.2 (by omega) (by omega)
    by_cases e : cmpL x.1.2 z.1.2 = 0
    · have e2 := cmpL_eq _ _ e
      rw [← e2, cmpL_anti] at h2
      omega
    · omega
  · unfold ltOf cmpR at *
    rw [decide_eq_false_iff_not] at *
    have a1 := cmpL_anti x.1.2 y.1.2
    have a2 := cmpL_anti y.1.2 z.1.2
    have a3 := cmpL_anti x.1.2 z.1.2
    have := cmpL_tr z.1.2 y.1.2 x.1.2 (by omega) (by omega)
    omega
theorem below_world1 {α : Type} [Inhabited α] (enc : α → Value) (w : World) (g n : Nat) (d : Array α) (os : Array Obj) : w.grownBy (sortWorld enc w g 0 n d os) (some g) := by
  unfold sortWorld
  refine ⟨rfl, rfl, rfl, by rw [size_grow, size_putRow]; exact Nat.le_add_right _ _, fun b hb hne => ?_⟩
  have hs : b < (putRow enc (Sort.ahead w n) g 0 d).heap.size := by rw [size_putRow]; exact hb
  have hb' : b ≠ g := fun e => hne (by rw [e])
  have e1 : (grow (putRow enc (Sort.ahead w n) g 0 d) os).heap[b]? = (putRow enc (Sort.ahead w n) g 0 d).heap[b]? := by
    simp only [grow]; rw [Array.getElem?_append_left hs]
  rw [e1]
  unfold putRow mapBlock
  simp only [Array.getElem?_modify]
  rw [if_neg (fun e => hb' e.symm)]
  rfl
theorem sortR_any (w : World) (B g n cap : Nat) (vs : List Value) (ds : List (RowX w g)) (ho : w.ownsRow B 24 1 (.slice (some ⟨g, 0, none⟩) n cap) n vs) (hv : vs = ds.map encR) (hl : n ≤ 100000) :
    Calls Tryz.prog 39 #[.slice (some ⟨g, 0, none⟩) n cap, .func (.func 40) #[] #[]] w fun e w' =>
      e = .returned (.tuple #[]) ∧ w.grownBy w' (some g) ∧ ∃ rs', rs'.Perm (ds.map fun x => x.1.2) ∧ rs'.Pairwise (fun a b => cmpL a b ≤ 0) ∧ SS w' (.slice (some ⟨g, 0, none⟩) n cap) rs' := by
  have hn : ds.length = n := by have := ho.1; rw [hv] at this; simpa using this
  have hlt := (World.ownsRow.lt ho g rfl).2
  have hc := ho.2
  obtain ⟨hc1, hc2⟩ : n ≤ cap ∧ cap ≤ maxLen := by
    rcases hc with ⟨e, _⟩ | ⟨g', cap', cur, e, _, _, h1, h2, _⟩
    · cases e
    · simp at e; obtain ⟨_, rfl⟩ := e; exact ⟨h1, h2⟩
  have hH : Holds encR w g 0 ds.toArray := by
    intro j hj
    simp only [List.size_toArray] at hj
    have e1 := ho.cellAt j (by omega)
    rw [hv] at e1
    refine ⟨?_, ?_⟩
    · rw [Nat.zero_add, e1]; simp [hj]
    · rw [Nat.zero_add]; exact ho.frozenAt j
  have hk : ∀ m os (dk : Array (RowX w g)), KeepS (fun k => k ≠ g ∧ k < w.heap.size) w (sortWorld encR w g 0 m dk os) := fun m os dk k hk => (below_world1 encR w g m dk os).block k hk.2 (fun e => hk.1 (by cases e; rfl))
  have hcmp : CmpLays1 Tryz.prog 40 #[] encR cmpR g 0 ds.toArray.size w := fun m os dk _ x y =>
    (covers1_any x.1.1 y.1.1 x.1.2 y.1.2 _ (x.2.1.keepS (hk m os dk) x.2.2) (y.2.1.keepS (hk m os dk) y.2.2)).mono fun e w' ⟨he, q, hq⟩ => ⟨he, q, #[], by rw [hq, grow_empty]⟩
  have key := Any.slices_SortFunc Tryz.sortR encR (fun x => x.2.1.one) cmpR (swo_rows w g) 40 #[] g 0 cap ds.toArray w enter_covers1 hcmp hH hlt (by simp; omega)
  rw [List.size_toArray, hn] at key
  refine key.mono ?_
  rintro e w' ⟨rfl, d', q, os, hp, hs, rfl⟩
  have hsz : d'.size = n := by have := hp.1; simpa [hn] using this
  refine ⟨rfl, below_world1 _ _ _ _ _ _, d'.toList.map (fun x => x.1.2), ?_, ?_, ?_⟩
  · refine List.Perm.map _ ?_
    obtain ⟨h1, _, h3⟩ := hp
    have e1 : (ds.toArray).extract 0 n = ds.toArray := by rw [← hn]; simp
    have e2 : d'.extract 0 n = d' := by rw [← hsz]; simp
    rw [e1, e2] at h3
    simpa using h3
  · rw [List.pairwise_map, List.pairwise_iff_getElem]
    intro i j hi hj hij
    have := hs i j (Nat.zero_le _) hij (by rw [← hsz]; simpa using hj)
    unfold ltOf cmpR at this
    rw [decide_eq_false_iff_not] at this
    have hi' : i < d'.size := by simpa using hi
    have hj' : j < d'.size := by simpa using hj
    rw [getElem!_pos d' i hi', getElem!_pos d' j hj'] at this
    have := cmpL_anti d'[i].1.2 d'[j].1.2
    simp only [Array.getElem_toList]
    omega
  · have hHo := holds_sortWorld encR w g 0 q ds.toArray d' os hlt hH (by simpa [hn] using hsz)
    refine ⟨fun i => encR d'[i]!, ⟨_, cap, by rw [List.length_map, Array.length_toList, hsz], by rw [List.length_map, Array.length_toList, hsz]; exact hc1, hc2, fun i hi => ⟨g, 0, rfl, (hHo i (by simpa using hi)).1⟩⟩, fun i hi => ?_⟩
    have hi' : i < d'.size := by simpa using hi
    have e1 : ri (d'.toList.map fun x => x.1.2) i = d'[i]!.1.2 := by
      rw [ri_lt hi, List.getElem_map, Array.getElem_toList, getElem!_pos d' i hi']
    rw [e1]
    exact d'[i]!.2.1.keepS (hk q os d') d'[i]!.2.2

/-! no rows -/
theorem inR_nil (F : FuncId) (w : World) : Calls Tryz.prog 99 #[.slice none 0 0, .int .i64 0, .int .i64 0, .func (.func F) #[] #[]] w fun e w' => e = .returned (.tuple #[]) ∧ w' = w := by
  go_enter Tryz.func99, Tryz.ntmps99
  go_wp2_with fail
  refine wp_loop_rounds 1 ?_
  rw [rounds_succ]
  go_wp2_with fail
  refine bodyPost_end (results_none Tryz.results99 _ _ _) rfl ?_
  exact ⟨rfl, rfl⟩
theorem pdR_nil (F : FuncId) (n : Int) (w : World) : Calls Tryz.prog 74 #[.slice none 0 0, .int .i64 0, .int .i64 0, .int .i64 n, .func (.func F) #[] #[]] w fun e w' => e = .returned (.tuple #[]) ∧ w' = w := by
  go_enter Tryz.func74, Tryz.ntmps74
  go_wp2_with fail
  refine wp_loop_rounds 1 ?_
  rw [rounds_succ]
  go_wp2_with fail
  refine (inR_nil F w).mono ?_
  rintro e w1 ⟨rfl, rfl⟩
  go_wp2_with fail
  refine bodyPost_ret (v := .tuple #[]) (results_none Tryz.results74 _ _ _) rfl ?_
  exact ⟨rfl, rfl⟩
theorem sortR_nil (F : FuncId) (w : World) : Calls Tryz.prog 39 #[.slice none 0 0, .func (.func F) #[] #[]] w fun e w' => e = .returned (.tuple #[]) ∧ w' = w := by
  have hl := Lib.hid (Tryz.bits_Len 0 w (by omega) (by omega))
  go_enter Tryz.func39, Tryz.ntmps39
  go_wp2_with (go_at_call 75; refine hl.out.mono ?_; rintro e w1 ⟨rfl, rfl⟩)
  refine (pdR_nil F _ _).mono ?_
  rintro e w1 ⟨rfl, rfl⟩
  go_wp2_with fail
  refine bodyPost_end (results_none Tryz.results39 _ _ _) rfl ?_
  exact ⟨rfl, rfl⟩

/-- the clone, sorted -/
theorem sort_clone {w w1 : World} {v' : Value} {L : List (List Int)} (ho : OwnR w w1 w.heap.size v' L) (hb : Below w.heap.size w w1) (hf : v' = .slice none 0 0 ∨ ∃ g n c, v' = .slice (some ⟨g, 0, none⟩) n c ∧ g < w1.heap.size) (hl : L.length ≤ 100000) :
    Calls Tryz.prog 39 #[v', .func (.func 40) #[] #[]] w1 fun e w2 => e = .returned (.tuple #[]) ∧ Below w.heap.size w w2 ∧ ∃ rs', rs'.Perm L ∧ rs'.Pairwise (fun a b => cmpL a b ≤ 0) ∧ SS w2 v' rs' := by
  rcases hf with rfl | ⟨g, n, c, rfl, hg⟩
  · have hL : L = [] := by
      have := (ho.ss hb).n
      exact List.eq_nil_of_length_eq_zero this.symm
    subst hL
    exact (sortR_nil _ w1).mono fun e w2 ⟨h1, h2⟩ => ⟨h1, by rw [h2]; exact hb, [], List.Perm.refl _, List.Pairwise.nil, SS_nil _⟩
  · have hn := (ho.ss hb).n
    subst hn
    obtain ⟨vs, o1, o2⟩ := ho
    have hvl : vs.length = L.length := by have := o1.1; simpa using this
    have hgB := (World.ownsRow.lt o1 g rfl).1
    let ds : List (RowX w1 g) := List.ofFn fun i : Fin L.length => ⟨(vs.getD i undef, ri L i), (o2 i i.2).si hb, by
      rcases o2 i i.2 with h | h
      · exact InS_of h fun k hk => ⟨by omega, Nat.lt_of_lt_of_le hk hb.size⟩
      · intro a n c e hn0
        dsimp only at e
        have h1 := World.ownsRow.lt h a.block (by rw [e]; rfl)
        have h2 := owns_ne h o1 (by decide)
        rw [e] at h2
        simp [Value.ownBlock] at h2
        exact ⟨h2, h1.2⟩⟩
    have d1 : vs = ds.map encR := by
      apply List.ext_getElem
      · simp [ds, hvl]
      · intro i h1 h2
        simp [ds, encR, h1]
    have d2 : ds.map (fun x => x.1.2) = L := by
      apply List.ext_getElem
      · simp [ds]
      · intro i h1 h2
        simp [ds, ri_lt h2]
    refine (sortR_any w1 _ g L.length c vs ds o1 d1 hl).mono ?_
    rintro e w2 ⟨he, hg2, rs', h1, h2, h3⟩
    rw [d2] at h1
    exact ⟨he, hb.grown hg2 hb.size (fun k hk => by cases hk; exact hgB), rs', h1, h2, h3⟩

set_option maxHeartbeats 1000000 in
theorem Covers_any (n : Int) (v : Value) (L : List (List Int)) (w : World) (h : SS w v L) (hn : v = .slice none 0 0 ∨ ∃ a n c, v = .slice (some a) n c) (hl : L.length ≤ 100000) :
    Calls Tryz.prog 15 #[.int .i64 n, v] w (Ret w (.bool (coversV n L))) := by
  have H := Lib.hid h; have HN := Lib.hid hn
  clear hn
  obtain ⟨vs, ⟨a, cap, rfl, h1, h2, h3⟩, h4⟩ := h
  have H3 := Lib.hid h3; have H4 := Lib.hid h4
  clear h3 h4
  have hm : L.length ≤ 9223372036854775807 := by omega
  by_cases c1 : n < 0
  · have HV := Lib.hid (show coversV n L = false by unfold coversV; rw [decide_eq_false (by omega)]; rfl)
    go_enter Tryz.func15, Tryz.ntmps15
    go_wp2_with fail
    go_ret
    exact ⟨ret_bool HV.out.symm, Below.refl _ _⟩
  by_cases c2 : 32 < n
  · have HV := Lib.hid (show coversV n L = false by unfold coversV; rw [decide_eq_false (by omega)]; rfl)
    go_enter Tryz.func15, Tryz.ntmps15
    go_wp2_with fail
    go_ret
    exact ⟨ret_bool HV.out.symm, Below.refl _ _⟩
  obtain ⟨N, rfl⟩ : ∃ N : Nat, n = N := ⟨n.toNat, by omega⟩
  have hN : N ≤ 32 := by omega
  clear c1 c2
  go_enter Tryz.func15, Tryz.ntmps15
  go_wp2_with fail
  go_loopw [16] (fun i wr => ∃ k : Nat, k ≤ L.length ∧ i = .int .i64 k ∧ (∃ m, wr = w.drewN m) ∧ Hid (∀ j, j < k → rightB N (ri L j) = true)) (fun i _ => L.length - (intOf i).toNat)
  case atStart => exact ⟨0, Nat.zero_le _, rfl, ⟨0, rfl⟩, fun j hj => by omega⟩
  case round =>
    obtain ⟨k, hk, rfl, ⟨m, rfl⟩, hj⟩ := hrel
    by_cases hlt : k < L.length
    · obtain ⟨b, off, rfl, hc⟩ := H3.out k hlt
      have R := H4.out k hlt
      obtain ⟨ra, rc, hrv, r1, r2⟩ := R.sl
      rw [hrv] at hc R
      have HR := Lib.hid R; clear R hrv
      go_wp2_with fail
      refine (cright_any _ N _ _ (by omega) (HR.out.drewN m)).mono ?_
      rintro e w1 ⟨rfl, m1, rfl⟩
      cases hb : rightB N (ri L k)
      · have HV := Lib.hid (show coversV N L = false by
          have : L.all (rightB N) = false := by rw [List.all_eq_false]; exact ⟨_, ri_mem hlt, by rw [hb]; simp⟩
          unfold coversV; rw [Int.toNat_natCast, this]; simp)
        clear hb
        go_wp2_with fail
        go_ret
        exact ⟨ret_bool HV.out.symm, below_drewN' (Below.refl _ _) _⟩
      · have HB := Lib.hid hb; clear hb
        go_wp2_with fail
        go_roundw
        case rel => exact ⟨k + 1, by omega, by go_num, (by first | exact ⟨_, rfl⟩ | exact dn2 _ _ _), upto hj.out HB.out⟩
        case measure => simp [intOf]; omega
    · obtain rfl : k = L.length := by omega
      go_wp2_with fail
      refine (clone_rows _ L _ (H.out.drewN m) HN.out hl).mono ?_
      rintro e w1 ⟨v1, rfl, ho, hb, hf⟩
      have HO := Lib.hid ho; have HB := Lib.hid hb; have HFm := Lib.hid hf
      have hv1 : ∃ a n c, v1 = .slice a n c := by
        rcases hf with rfl | ⟨g, n, c, rfl, _⟩
        · exact ⟨_, _, _, rfl⟩
        · exact ⟨_, _, _, rfl⟩
      obtain ⟨va, vn, vc, rfl⟩ := hv1
      clear ho hb hf
      go_wp2_with fail
      refine (sort_clone HO.out HB.out HFm.out hl).mono ?_
      rintro e w2 ⟨rfl, hb2, rs', p1, p2, p3⟩
      have HB2 := Lib.hid hb2; have P1 := Lib.hid p1; have P2 := Lib.hid p2; have P3 := Lib.hid p3
      clear hb2 p1 p2 p3
      go_wp2_with fail
      have hall : ∀ l ∈ rs', rightB N l = true := fun l hm => by
        have hm' := P1.out.mem_iff.1 hm
        obtain ⟨i, hi, rfl⟩ := mem_ri hm'
        exact hj.out i hi
      refine (covered_any N hN N [] rs' _ _ w2 (by simp) (by simp [rightB]) (fun l hm => ⟨hall l hm, begB_nil l⟩) (asc_of_pairwise P2.out) (by rw [P1.out.length_eq]; omega) (SI_nil _) (.inl rfl) P3.out).mono ?_
      rintro e w3 ⟨rfl, hb3⟩
      have HV := Lib.hid (show covV N N [] rs' = coversV N L by
        have h5 : L.all (rightB N) = true := by
          rw [List.all_eq_true]; intro x hx; obtain ⟨i, hi, rfl⟩ := mem_ri hx; exact hj.out i hi
        rw [covV_perm N [] P1.out]
        unfold coversV
        rw [Int.toNat_natCast, h5, decide_eq_true (by omega)]; simp)
      have HB3 := Lib.hid hb3; clear hb3
      rw [HV.out]
      go_wp2_with fail
      go_ret
      refine ⟨rfl, ?_⟩
      exact (below_drewN' (Below.refl _ _) m).trans (HB2.out.trans (HB3.out.mono HB2.out.size))
end Go.Proofs.YtehbnckdllbmgaaGreatDoor
