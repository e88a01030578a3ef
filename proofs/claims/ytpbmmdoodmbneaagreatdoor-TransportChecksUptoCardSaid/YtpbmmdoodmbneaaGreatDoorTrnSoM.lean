/- Contract: slices.SortFunc of moves by Ready and Item, at whatever length. -/
import Derived.Test.YtpbmmdoodmbneaaGreatDoorTrnCmp
import Derived.Test.YtpbmmdoodmbneaaGreatDoorShelfS
import Derived.Test.YtpbmmdoodmbneaaGreatDoorShelf
namespace Go.Proofs.YtpbmmdoodmbneaaGreatDoor
open Go.RowKit Go.Sort

/-- what a sort needs of a row of elements of k cells -/
theorem holdsK_of {α : Type} [Inhabited α] {enc : α → List Value} {k : Nat} (hk : ∀ x, (enc x).length = k) (h0 : 0 < k) {w : World} {B g n cap : Nat} {e : TypeId} {l : List α} (h : w.ownsRow B e k (.slice (some ⟨g, 0, none⟩) n cap) l.length (l.flatMap enc)) : HoldsK enc k w g 0 l.toArray := by
  have hn : l.length = n := by
    rcases h.2 with ⟨e, _⟩ | ⟨g', cap', cur, e, _⟩
    · cases e
    · simp at e; exact e.2.1.symm
  subst hn
  intro t ht
  rw [size_flatK] at ht
  simp only [List.size_toArray] at ht
  rw [get_flatK enc k l.toArray t (by simpa using ht), Nat.zero_add]
  have hi : t / k < l.length := Nat.div_lt_of_lt_mul (by rw [Nat.mul_comm]; exact ht)
  have hj : t % k < k := Nat.mod_lt _ h0
  refine ⟨?_, h.frozenAt t⟩
  have e1 : t = t / k * k + t % k := by rw [Nat.mul_comm]; exact (Nat.div_add_mod t k).symm
  have key := h.cellAt t ht
  rw [key]
  conv => lhs; rw [e1]
  rw [flat_get enc hk l (t / k) (t % k) hi hj]
  have hel : (l.toArray)[t / k]! = l[t / k] := by simp [hi]
  rw [hel, List.getElem?_eq_getElem (by rw [hk]; exact hj)]
  simp [List.getElem!_eq_getElem?_getD, List.getElem?_eq_getElem (show t % k < (enc l[t / k]).length by rw [hk]; exact hj)]
theorem below_worldK {α : Type} [Inhabited α] (enc : α → List Value) (k : Nat) (w : World) (g n : Nat) (d : Array α) (os : Array Obj) : w.grownBy (sortWorldK enc k w g 0 n d os) (some g) := by
  unfold sortWorldK
  refine ⟨rfl, rfl, rfl, by rw [size_grow, size_putRowK]; exact Nat.le_add_right _ _, fun b hb hne => ?_⟩
  have hs : b < (putRowK enc k (Sort.ahead w n) g 0 d).heap.size := by rw [size_putRowK]; exact hb
  have hb' : b ≠ g := fun e => hne (by rw [e])
  have e1 : (grow (putRowK enc k (Sort.ahead w n) g 0 d) os).heap[b]? = (putRowK enc k (Sort.ahead w n) g 0 d).heap[b]? := by
    simp only [grow]; rw [Array.getElem?_append_left hs]
  rw [e1]
  unfold putRowK putRow mapBlock
  simp only [Array.getElem?_modify]
  rw [if_neg (fun e => hb' e.symm)]
  rfl
theorem at_worldK {α : Type} [Inhabited α] {enc : α → List Value} {k : Nat} {w : World} {g n : Nat} {d d' : Array α} {os : Array Obj} (h : HoldsK enc k w g 0 d) (hg : g < w.heap.size) (hs : d'.size = d.size) {i j : Nat} (hi : i < d'.size) (hj : j < k) :
    (sortWorldK enc k w g 0 n d' os).cell? ⟨g, i * k + j, none⟩ = some (enc d'[i]!)[j]! := by
  have := (HoldsK.cell (holdsK_sortWorldK enc k w g 0 n d d' os hg h hs) hi hj).1
  rwa [Nat.zero_add] at this

theorem swo_moves : Sort.SWO (ltOf mC) := by
  have hr := mC_ok
  refine ⟨fun x => ?_, fun x y z h1 h2 => ?_, fun x y z h1 h2 => ?_⟩
  · unfold ltOf; rw [hr.refl]; rfl
  · unfold ltOf at *
    rw [decide_eq_true_eq] at *
    exact hr.lt_le h1 (by omega)
  · unfold ltOf at *
    rw [decide_eq_false_iff_not] at *
    have a1 := hr.anti x y
    have a2 := hr.anti y z
    have a3 := hr.anti x z
    have := hr.tr z y x (by omega) (by omega)
    omega
theorem sorted_moves {d : Array Mov} (h : SortedIn (ltOf mC) 0 d.size d) : d.toList.Pairwise leM := by
  rw [List.pairwise_iff_getElem]
  intro i j hi hj hij
  have := h i j (Nat.zero_le _) hij (by simpa using hj)
  unfold ltOf at this
  rw [decide_eq_false_iff_not] at this
  have hi' : i < d.size := by simpa using hi
  have hj' : j < d.size := by simpa using hj
  rw [getElem!_pos d i hi', getElem!_pos d j hj'] at this
  unfold leM
  have := mC_ok.anti d[i] d[j]
  simp only [Array.getElem_toList]
  omega
theorem perm_moves {d d' : Array Mov} (h : PermIn 0 d.size d d') : d'.toList.Perm d.toList := by
  obtain ⟨h1, _, h3⟩ := h
  have e1 : d.extract 0 d.size = d := by simp
  have e2 : d'.extract 0 d.size = d' := by rw [← h1]; simp
  rwa [e1, e2] at h3
theorem mvOne_ (x : Mov) : ∀ v ∈ mvCells x, v.oneCell' = true := by
  intro v hv
  simp only [mvCells, List.mem_cons, List.not_mem_nil, or_false] at hv
  rcases hv with rfl | rfl | rfl | rfl | rfl <;> rfl
theorem agg_move : ∀ w, (isAgg 39).run Tryz.prog w = .ok true w := Tryz.isAgg39
theorem size_move : ∀ w, (Go.sizeOf 39).run Tryz.prog w = .ok 5 w := Tryz.sizeOf39
theorem sortM_any (w : World) (B g n cap : Nat) (ms : List Mov) (ho : OwnM w B (.slice (some ⟨g, 0, none⟩) n cap) ms) (hl : ms.length ≤ 100000) :
    Calls Tryz.prog 33 #[.slice (some ⟨g, 0, none⟩) n cap, .func (.func 34) #[] #[]] w fun e w' =>
      e = .returned (.tuple #[]) ∧ w.grownBy w' (some g) ∧ ∃ ms', ms'.Perm ms ∧ ms'.Pairwise leM ∧ SM w' (.slice (some ⟨g, 0, none⟩) n cap) ms' := by
  have hH := holdsK_of (enc := mvCells) (k := 5) mvCells_len (by omega) ho
  have hlt := ho.lt g rfl
  obtain ⟨_, cap', he, hc1, hc2, _⟩ := ho.s
  simp at he
  obtain ⟨_, rfl, rfl⟩ := he
  have hcmp : CmpLays Tryz.prog 34 #[] mvCells 5 mC g 0 ms.toArray.size w := fun m os dk _ x y =>
    (Plan1_any x y _).mono fun e w' ⟨he, hg⟩ => ⟨he, hg⟩
  have key := AnyQ.slices_SortFunc Tryz.sortM 5 agg_move size_move mvCells mvCells_len mvOne_ mC swo_moves 34 #[] g 0 cap ms.toArray w enter_Plan1 hcmp hH hlt.2 (by simp; omega)
  rw [List.size_toArray] at key
  refine key.mono ?_
  rintro e w' ⟨rfl, d', q, os, hp, hs, rfl⟩
  refine ⟨rfl, below_worldK _ _ _ _ _ _ _, d'.toList, ?_, ?_, ?_⟩
  · have := perm_moves (d := ms.toArray) (d' := d') (by rw [List.size_toArray]; exact hp)
    simpa using this
  · refine sorted_moves ?_
    have hsz : d'.size = ms.length := by have := hp.1; simpa using this
    rw [hsz]; exact hs
  · have hsz : d'.size = ms.length := by have := hp.1; simpa using this
    have hln : d'.toList.length = ms.length := by simpa using hsz
    refine ⟨_, cap, by rw [hln], by rw [Array.length_toList, hsz]; exact hc1, hc2, fun i hi => ⟨g, 0, rfl, ?_⟩⟩
    rw [Array.length_toList] at hi
    have key : ∀ j, j < 5 → (sortWorldK mvCells 5 w g 0 q d' os).cell? ⟨g, i * 5 + j, none⟩ = some (mvCells d'[i]!)[j]! := fun j hj => at_worldK hH hlt.2 (by simpa using hsz) hi hj
    have hel : mvi d'.toList i = d'[i]! := by
      rw [mvi_lt (by simpa using hi)]
      simp [hi]
    rw [hel, Nat.zero_add]
    exact ⟨key 0 (by omega), key 1 (by omega), key 2 (by omega), key 3 (by omega), key 4 (by omega)⟩

/-! no moves -/
theorem inM_nil (F : FuncId) (w : World) : Calls Tryz.prog 71 #[.slice none 0 0, .int .i64 0, .int .i64 0, .func (.func F) #[] #[]] w fun e w' => e = .returned (.tuple #[]) ∧ w' = w := by
  go_enter Tryz.func71, Tryz.ntmps71
  go_wp2_with fail
  refine wp_loop_rounds 1 ?_
  rw [rounds_succ]
  go_wp2_with fail
  refine bodyPost_end (results_none Tryz.results71 _ _ _) rfl ?_
  exact ⟨rfl, rfl⟩
theorem pdM_nil (F : FuncId) (n : Int) (w : World) : Calls Tryz.prog 53 #[.slice none 0 0, .int .i64 0, .int .i64 0, .int .i64 n, .func (.func F) #[] #[]] w fun e w' => e = .returned (.tuple #[]) ∧ w' = w := by
  go_enter Tryz.func53, Tryz.ntmps53
  go_wp2_with fail
  refine wp_loop_rounds 1 ?_
  rw [rounds_succ]
  go_wp2_with fail
  refine (inM_nil F w).mono ?_
  rintro e w1 ⟨rfl, rfl⟩
  go_wp2_with fail
  refine bodyPost_ret (v := .tuple #[]) (results_none Tryz.results53 _ _ _) rfl ?_
  exact ⟨rfl, rfl⟩
theorem sortM_nil (F : FuncId) (w : World) : Calls Tryz.prog 33 #[.slice none 0 0, .func (.func F) #[] #[]] w fun e w' => e = .returned (.tuple #[]) ∧ w' = w := by
  have hl := Lib.hid (Tryz.bits_Len 0 w (by omega) (by omega))
  go_enter Tryz.func33, Tryz.ntmps33
  go_wp2_with (go_at_call 54; refine hl.out.mono ?_; rintro e w1 ⟨rfl, rfl⟩)
  refine (pdM_nil F _ _).mono ?_
  rintro e w1 ⟨rfl, rfl⟩
  go_wp2_with fail
  refine bodyPost_end (results_none Tryz.results33 _ _ _) rfl ?_
  exact ⟨rfl, rfl⟩
end Go.Proofs.YtpbmmdoodmbneaaGreatDoor
