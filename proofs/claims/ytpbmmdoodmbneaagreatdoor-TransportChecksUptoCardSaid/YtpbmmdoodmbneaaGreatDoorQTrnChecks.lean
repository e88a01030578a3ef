/- The law TransportChecks. -/
import Derived.Test.YtpbmmdoodmbneaaGreatDoorTrnRm
import Derived.Test.YtpbmmdoodmbneaaGreatDoorTrnG

/- Contracts: move, truck and trips of the reference of transport. -/
namespace Go.Proofs.YtpbmmdoodmbneaaGreatDoor
open Go.RowKit Go.Sort

theorem OwnX.fzH {w : World} {B g n cap : Nat} {l : List Trp} (h : OwnX w B (.slice (some ⟨g, 0, none⟩) n cap) l) (k : Nat) : w.frozen? ⟨g, k, none⟩ = false := by
  obtain ⟨a, c, he, _⟩ := h.form
  simp at he
  obtain ⟨_, rfl, _⟩ := he
  have h' : w.ownsRow B 43 4 (.slice (some ⟨g, 0, none⟩) l.length cap) l.length (l.flatMap tpCells) := h
  exact h'.frozenAt k
theorem OwnX.setH {w : World} {B g n cap : Nat} {l : List Trp} (h : OwnX w B (.slice (some ⟨g, 0, none⟩) n cap) l) (k : Nat) (hk : k < l.length) (x : Trp) : OwnX (setY w g (k * 4) x) B (.slice (some ⟨g, 0, none⟩) n cap) (l.set k x) := by
  have h1 : OwnY (fun i => if i = -1 then x else tpi l i.toNat) w B (.slice (some ⟨g, 0, none⟩) n cap) (upI l.length) := by
    show OwnX _ _ _ _
    rwa [show (upI l.length).map (fun i => if i = -1 then x else tpi l i.toNat) = l from by
      rw [← upI_trips l]
      refine (List.map_congr_left fun i hi => ?_).trans (by rw [upI_trips])
      have := mem_upI.1 hi
      rw [if_neg (by omega), upI_trips]]
  have h2 := h1.setg k (by rw [upI_length]; exact hk) (-1)
  have h3 : OwnX (setY w g (k * 4) ((fun i => if i = -1 then x else tpi l i.toNat) (-1))) B (.slice (some ⟨g, 0, none⟩) n cap) (((upI l.length).set k (-1)).map (fun i => if i = -1 then x else tpi l i.toNat)) := h2
  rw [List.map_set] at h3
  have e : (upI l.length).map (fun i => if i = -1 then x else tpi l i.toNat) = l := by
    refine (List.map_congr_left fun i hi => ?_).trans (upI_trips l)
    have := mem_upI.1 hi
    rw [if_neg (by omega)]
  rw [e] at h3
  exact h3

/-! plain: where a trip goes in, and the list while the others move up -/
theorem insS_at {x : Trp} : ∀ {l : List Trp} {k : Nat}, k ≤ l.length → (∀ j, j < k → ¬ x.start < (tpi l j).start) → (k < l.length → x.start < (tpi l k).start) → insS x l = l.take k ++ x :: l.drop k := by
  intro l
  induction l with
  | nil => intro k hk _ _; obtain rfl : k = 0 := (by simpa using hk); rfl
  | cons y r ih =>
    intro k hk h1 h2
    rw [insS_cons]
    cases k with
    | zero =>
      rw [if_pos (by have := h2 (by simp); simpa [tpi] using this)]
      rfl
    | succ k =>
      rw [if_neg (by have := h1 0 (by omega); simpa [tpi] using this)]
      have := ih (k := k) (by simpa using hk) (fun j hj => by have := h1 (j + 1) (by omega); simpa [tpi] using this) (fun hlt => by have := h2 (by simpa using hlt); simpa [tpi] using this)
      rw [this]
      rfl
/-- the others from place j on have moved up -/
def shL (l : List Trp) (x : Trp) (j : Nat) : List Trp := (l ++ [x]).take (j + 1) ++ l.drop j
theorem shL_all (l : List Trp) (x : Trp) : shL l x l.length = l ++ [x] := by
  unfold shL
  rw [List.drop_length, List.append_nil, List.take_of_length_le (by simp)]
theorem shL_len {l : List Trp} {x : Trp} {j : Nat} (h : j ≤ l.length) : (shL l x j).length = l.length + 1 := by
  unfold shL
  rw [List.length_append, List.length_take, List.length_drop, List.length_append, List.length_singleton]
  omega
theorem shL_at {l : List Trp} {x : Trp} {j i : Nat} (h : i ≤ j) (hj : j ≤ l.length) : tpi (shL l x j) i = tpi (l ++ [x]) i := by
  unfold shL tpi
  rw [List.getD_eq_getElem?_getD, List.getD_eq_getElem?_getD, List.getElem?_append_left (by simp; omega), List.getElem?_take, if_pos (by omega)]
theorem shL_set {l : List Trp} {x : Trp} {j : Nat} (h : j + 1 ≤ l.length) : (shL l x (j + 1)).set (j + 1) (tpi l j) = shL l x j := by
  unfold shL
  apply List.ext_getElem
  · simp; omega
  · intro i h1 h2
    rw [List.getElem_set]
    by_cases e : j + 1 = i
    · subst e
      rw [if_pos rfl, List.getElem_append_right (by simp; omega)]
      simp only [List.length_take, List.length_append, List.length_singleton, List.getElem_drop]
      rw [tpi_lt (by omega)]
      congr 1
      omega
    · rw [if_neg e]
      by_cases hi : i < j + 1
      · rw [List.getElem_append_left (by simp; omega), List.getElem_append_left (by simp; omega), List.getElem_take, List.getElem_take]
      · rw [List.getElem_append_right (by simp; omega), List.getElem_append_right (by simp; omega)]
        simp only [List.length_take, List.length_append, List.length_singleton, List.getElem_drop]
        congr 1
        omega
theorem shL_end {l : List Trp} {x : Trp} {k : Nat} (h : k ≤ l.length) : (shL l x k).set k x = l.take k ++ x :: l.drop k := by
  unfold shL
  apply List.ext_getElem
  · simp; omega
  · intro i h1 h2
    rw [List.getElem_set]
    by_cases e : k = i
    · subst e
      have hk : (l.take k).length = k := by rw [List.length_take]; omega
      rw [if_pos rfl, List.getElem_append_right (by omega)]
      simp [hk]
    · rw [if_neg e]
      by_cases hi : i < k
      · rw [List.getElem_append_left (by simp; omega), List.getElem_append_left (by simp; omega), List.getElem_take, List.getElem_take, List.getElem_append_left (by omega)]
      · rw [List.getElem_append_right (by simp; omega), List.getElem_append_right (by simp; omega)]
        simp only [List.length_take, List.length_append, List.length_singleton, Nat.min_eq_left h, Nat.min_eq_left (show k + 1 ≤ l.length + 1 by omega)]
        rw [List.getElem_cons, dif_neg (by omega), List.getElem_drop, List.getElem_drop]
        first
        | rfl
        | (congr 1; omega)
        | skip

theorem fndM_at {x : List UInt8} : ∀ {ms : List Mov} {k : Nat}, k < ms.length → (∀ j, j < k → (mvi ms j).item ≠ x) → (mvi ms k).item = x → fndM ms x = some (mvi ms k) := by
  intro ms
  induction ms with
  | nil => intro k hk; simp at hk
  | cons m r ih =>
    intro k hk h1 h2
    unfold fndM
    rw [List.find?_cons]
    cases k with
    | zero => have h2 : m.item = x := h2; rw [show (m.item == x) = true by simp [h2]]; rfl
    | succ k =>
      have h0 : m.item ≠ x := h1 0 (by omega)
      rw [show (m.item == x) = false by simpa using h0]
      exact ih (by simpa using hk) (fun j hj => h1 (j + 1) (by omega)) h2
theorem fndM_no {x : List UInt8} {ms : List Mov} (h : ∀ j, j < ms.length → (mvi ms j).item ≠ x) : fndM ms x = none := by
  unfold fndM
  rw [List.find?_eq_none]
  intro m hm
  obtain ⟨j, hj, rfl⟩ := mem_mvi hm
  simpa using h j hj
theorem fndK_at {x : List UInt8} : ∀ {ms : List Trk} {k : Nat}, k < ms.length → (∀ j, j < k → (tki ms j).name ≠ x) → (tki ms k).name = x → fndK ms x = some (tki ms k) := by
  intro ms
  induction ms with
  | nil => intro k hk; simp at hk
  | cons m r ih =>
    intro k hk h1 h2
    unfold fndK
    rw [List.find?_cons]
    cases k with
    | zero => have h2 : m.name = x := h2; rw [show (m.name == x) = true by simp [h2]]; rfl
    | succ k =>
      have h0 : m.name ≠ x := h1 0 (by omega)
      rw [show (m.name == x) = false by simpa using h0]
      exact ih (by simpa using hk) (fun j hj => h1 (j + 1) (by omega)) h2
theorem fndK_no {x : List UInt8} {ms : List Trk} (h : ∀ j, j < ms.length → (tki ms j).name ≠ x) : fndK ms x = none := by
  unfold fndK
  rw [List.find?_eq_none]
  intro m hm
  obtain ⟨j, hj, rfl⟩ := mem_tki hm
  simpa using h j hj
/-- a move is written to a result's cell -/
def setM (w : World) (b : Nat) (x : Mov) : World := ((((w.setCell ⟨b, 0, none⟩ (.string (bs x.item))).setCell ⟨b, 1, none⟩ (.int .i64 x.frm)).setCell ⟨b, 2, none⟩ (.int .i64 x.to)).setCell ⟨b, 3, none⟩ (.int .i64 x.ready)).setCell ⟨b, 4, none⟩ (.int .i64 x.mass)
theorem setM_at {w : World} {b : Nat} {y : Mov} (h : MAt w b 0 y) (x : Mov) : MAt (setM w b x) b 0 x := by
  obtain ⟨e0, e1, e2, e3, e4⟩ := h
  have e1 : w.cell? ⟨b, 1, none⟩ = _ := e1
  have e2 : w.cell? ⟨b, 2, none⟩ = _ := e2
  have e3 : w.cell? ⟨b, 3, none⟩ = _ := e3
  have e4 : w.cell? ⟨b, 4, none⟩ = _ := e4
  unfold setM
  refine ⟨?_, ?_, ?_, ?_, ?_⟩ <;> go_simp
def setK (w : World) (b : Nat) (x : Trk) : World := ((w.setCell ⟨b, 0, none⟩ (.string (bs x.name))).setCell ⟨b, 1, none⟩ (.int .i64 x.load)).setCell ⟨b, 2, none⟩ (.int .i64 x.hours)
theorem setK_at {w : World} {b : Nat} {y : Trk} (h : KAt w b 0 y) (x : Trk) : KAt (setK w b x) b 0 x := by
  obtain ⟨e0, e1, e2⟩ := h
  have e1 : w.cell? ⟨b, 1, none⟩ = _ := e1
  have e2 : w.cell? ⟨b, 2, none⟩ = _ := e2
  unfold setK
  refine ⟨?_, ?_, ?_⟩ <;> go_simp
theorem setM_below {w0 w : World} (h : Below w0.heap.size w0 w) {b : Nat} (hb : w0.heap.size ≤ b) (x : Mov) : Below w0.heap.size w0 (setM w b x) := ((((h.setCell hb _).setCell hb _).setCell hb _).setCell hb _).setCell hb _
theorem setK_below {w0 w : World} (h : Below w0.heap.size w0 w) {b : Nat} (hb : w0.heap.size ≤ b) (x : Trk) : Below w0.heap.size w0 (setK w b x) := ((h.setCell hb _).setCell hb _).setCell hb _
def moV (r : Option Mov) : Value := match r with
  | none => .tuple #[.agg #[.string ⟨#[]⟩, .int .i64 0, .int .i64 0, .int .i64 0, .int .i64 0], .bool false]
  | some m => .tuple #[.agg #[.string (bs m.item), .int .i64 m.frm, .int .i64 m.to, .int .i64 m.ready, .int .i64 m.mass], .bool true]
def tkV (r : Option Trk) : Value := match r with
  | none => .tuple #[.agg #[.string ⟨#[]⟩, .int .i64 0, .int .i64 0], .bool false]
  | some m => .tuple #[.agg #[.string (bs m.name), .int .i64 m.load, .int .i64 m.hours], .bool true]

set_option maxHeartbeats 2000000 in
theorem rmove_any (mv : Value) (ms : List Mov) (x : List UInt8) (w : World) (hm : SM w mv ms) :
    Calls Tryz.prog 27 #[mv, .string (bs x)] w (Ret w (moV (fndM ms x))) := by
  obtain ⟨a, cap, rfl, h1, h2, h3⟩ := hm
  have hm : ms.length ≤ 9223372036854775807 := by unfold maxLen at h2; omega
  obtain ⟨W0, hW0⟩ : ∃ W, W = w.alloc (.cells #[.string ⟨#[]⟩, .int .i64 0, .int .i64 0, .int .i64 0, .int .i64 0] 39) := ⟨_, rfl⟩
  have hb0 : Below w.heap.size w W0 := by rw [hW0]; exact (Below.refl _ _).alloc (Nat.le_refl _) _
  have hz : MAt W0 w.heap.size 0 ⟨[], 0, 0, 0, 0⟩ := by rw [hW0]; exact ⟨by simp [bs], by simp, by simp, by simp, by simp⟩
  have HB0 := Lib.hid hb0
  have HZ := Lib.hid hz
  have hfr : ∀ j, W0.frozen? ⟨w.heap.size, j, none⟩ = false := by intro j; rw [hW0]; simp
  obtain ⟨r0, r1, r2, r3, r4⟩ := hz
  have H3 := Lib.hid h3
  clear h3 hb0
  go_enter Tryz.func27, Tryz.ntmps27
  go_wp2_with fail
  rw [← hW0]
  clear hW0
  go_loopw [6] (fun i wr => ∃ k : Nat, k ≤ ms.length ∧ i = .int .i64 k ∧ wr = W0 ∧ Hid (∀ j, j < k → (mvi ms j).item ≠ x)) (fun i _ => ms.length - (intOf i).toNat)
  case atStart => exact ⟨0, Nat.zero_le _, rfl, rfl, Lib.hid fun j hj => by omega⟩
  case round =>
    obtain ⟨k, hk, rfl, rfl, hN⟩ := hrel
    by_cases hlt : k < ms.length
    · obtain ⟨b, off, rfl, hc⟩ := H3.out k hlt
      obtain ⟨c0, c1, c2, c3, c4⟩ := hc.keep HB0.out
      have i1 : (k : Int) < (ms.length : Int) := by omega
      have i2 : (k : Int) < (cap : Int) := by omega
      have HF := Lib.hid (fun h => fndM_at (x := x) hlt hN.out h)
      have HNE : Hid ((mvi ms k).item ≠ x → ∀ j, j < k + 1 → (mvi ms j).item ≠ x) := fun h j hj => by
        rcases Nat.lt_succ_iff_lt_or_eq.1 hj with h' | h'
        · exact hN.out j h'
        · subst h'; exact h
      generalize mvi ms k = m at *
      clear hc
      have hbe := bs_eq m.item x
      by_cases he : m.item = x
      · have HFM := Lib.hid (HF.out he)
        have HM := Lib.hid (setM_at HZ.out m)
        have HBM := Lib.hid (setM_below HB0.out (Nat.le_refl _) m)
        rw [show (m.item == x) = true by simpa using he] at hbe
        clear he HF HNE
        go_wp2_with fail
        obtain ⟨W1, hW1⟩ : ∃ W1, W1 = setM wr w.heap.size m := ⟨_, rfl⟩
        rw [← hW1] at HM HBM
        unfold setM at hW1
        rw [← hW1]
        obtain ⟨e0, e1, e2, e3, e4⟩ := HM.out
        rw [Nat.zero_add] at e1 e2 e3 e4
        exact bodyPost_ret (v := moV (some m)) (by simp [moV, results, Tryz.results27, go_sem, e0, e1, e2, e3, e4]) rfl ⟨by rw [HFM.out], HBM.out⟩
      · have HNX := Lib.hid (HNE.out he)
        rw [show (m.item == x) = false by simpa using he] at hbe
        clear he HF HNE
        go_wp2_with fail
        go_roundw
        case rel => exact ⟨k + 1, by omega, by go_num, (by first | rfl | trivial), HNX.out⟩
        case measure => simp [intOf]; omega
    · obtain rfl : k = ms.length := by omega
      have HFM := Lib.hid (fndM_no hN.out)
      have HM := Lib.hid (setM_at HZ.out ⟨[], 0, 0, 0, 0⟩)
      have HBM := Lib.hid (setM_below HB0.out (Nat.le_refl _) ⟨[], 0, 0, 0, 0⟩)
      have i1 : ¬ (ms.length : Int) < (ms.length : Int) := by omega
      go_wp2_with fail
      obtain ⟨W1, hW1⟩ : ∃ W1, W1 = setM wr w.heap.size ⟨[], 0, 0, 0, 0⟩ := ⟨_, rfl⟩
      rw [← hW1] at HM HBM
      unfold setM at hW1
      rw [show bs [] = ⟨#[]⟩ from rfl] at hW1
      dsimp only at hW1
      rw [← hW1]
      obtain ⟨e0, e1, e2, e3, e4⟩ := HM.out
      rw [Nat.zero_add] at e1 e2 e3 e4
      rw [show bs [] = ⟨#[]⟩ from rfl] at e0
      exact bodyPost_ret (v := moV none) (by simp [moV, results, Tryz.results27, go_sem, e0, e1, e2, e3, e4]) rfl ⟨by rw [HFM.out], HBM.out⟩
set_option maxHeartbeats 2000000 in
theorem rtruck_any (mv : Value) (ms : List Trk) (x : List UInt8) (w : World) (hm : SK w mv ms) :
    Calls Tryz.prog 50 #[mv, .string (bs x)] w (Ret w (tkV (fndK ms x))) := by
  obtain ⟨a, cap, rfl, h1, h2, h3⟩ := hm
  have hm : ms.length ≤ 9223372036854775807 := by unfold maxLen at h2; omega
  obtain ⟨W0, hW0⟩ : ∃ W, W = w.alloc (.cells #[.string ⟨#[]⟩, .int .i64 0, .int .i64 0] 36) := ⟨_, rfl⟩
  have hb0 : Below w.heap.size w W0 := by rw [hW0]; exact (Below.refl _ _).alloc (Nat.le_refl _) _
  have hz : KAt W0 w.heap.size 0 ⟨[], 0, 0⟩ := by rw [hW0]; exact ⟨by simp [bs], by simp, by simp⟩
  have HB0 := Lib.hid hb0
  have HZ := Lib.hid hz
  have hfr : ∀ j, W0.frozen? ⟨w.heap.size, j, none⟩ = false := by intro j; rw [hW0]; simp
  obtain ⟨r0, r1, r2⟩ := hz
  have H3 := Lib.hid h3
  clear h3 hb0
  go_enter Tryz.func50, Tryz.ntmps50
  go_wp2_with fail
  rw [← hW0]
  clear hW0
  go_loopw [6] (fun i wr => ∃ k : Nat, k ≤ ms.length ∧ i = .int .i64 k ∧ wr = W0 ∧ Hid (∀ j, j < k → (tki ms j).name ≠ x)) (fun i _ => ms.length - (intOf i).toNat)
  case atStart => exact ⟨0, Nat.zero_le _, rfl, rfl, Lib.hid fun j hj => by omega⟩
  case round =>
    obtain ⟨k, hk, rfl, rfl, hN⟩ := hrel
    by_cases hlt : k < ms.length
    · obtain ⟨b, off, rfl, hc⟩ := H3.out k hlt
      obtain ⟨c0, c1, c2⟩ := hc.keep HB0.out
      have i1 : (k : Int) < (ms.length : Int) := by omega
      have i2 : (k : Int) < (cap : Int) := by omega
      have HF := Lib.hid (fun h => fndK_at (x := x) hlt hN.out h)
      have HNE : Hid ((tki ms k).name ≠ x → ∀ j, j < k + 1 → (tki ms j).name ≠ x) := fun h j hj => by
        rcases Nat.lt_succ_iff_lt_or_eq.1 hj with h' | h'
        · exact hN.out j h'
        · subst h'; exact h
      generalize tki ms k = m at *
      clear hc
      have hbe := bs_eq m.name x
      by_cases he : m.name = x
      · have HFM := Lib.hid (HF.out he)
        have HM := Lib.hid (setK_at HZ.out m)
        have HBM := Lib.hid (setK_below HB0.out (Nat.le_refl _) m)
        rw [show (m.name == x) = true by simpa using he] at hbe
        clear he HF HNE
        go_wp2_with fail
        obtain ⟨W1, hW1⟩ : ∃ W1, W1 = setK wr w.heap.size m := ⟨_, rfl⟩
        rw [← hW1] at HM HBM
        unfold setK at hW1
        rw [← hW1]
        obtain ⟨e0, e1, e2⟩ := HM.out
        rw [Nat.zero_add] at e1 e2
        exact bodyPost_ret (v := tkV (some m)) (by simp [tkV, results, Tryz.results50, go_sem, e0, e1, e2]) rfl ⟨by rw [HFM.out], HBM.out⟩
      · have HNX := Lib.hid (HNE.out he)
        rw [show (m.name == x) = false by simpa using he] at hbe
        clear he HF HNE
        go_wp2_with fail
        go_roundw
        case rel => exact ⟨k + 1, by omega, by go_num, (by first | rfl | trivial), HNX.out⟩
        case measure => simp [intOf]; omega
    · obtain rfl : k = ms.length := by omega
      have HFM := Lib.hid (fndK_no hN.out)
      have HM := Lib.hid (setK_at HZ.out ⟨[], 0, 0⟩)
      have HBM := Lib.hid (setK_below HB0.out (Nat.le_refl _) ⟨[], 0, 0⟩)
      have i1 : ¬ (ms.length : Int) < (ms.length : Int) := by omega
      go_wp2_with fail
      obtain ⟨W1, hW1⟩ : ∃ W1, W1 = setK wr w.heap.size ⟨[], 0, 0⟩ := ⟨_, rfl⟩
      rw [← hW1] at HM HBM
      unfold setK at hW1
      rw [show bs [] = ⟨#[]⟩ from rfl] at hW1
      dsimp only at hW1
      rw [← hW1]
      obtain ⟨e0, e1, e2⟩ := HM.out
      rw [Nat.zero_add] at e1 e2
      rw [show bs [] = ⟨#[]⟩ from rfl] at e0
      exact bodyPost_ret (v := tkV none) (by simp [tkV, results, Tryz.results50, go_sem, e0, e1, e2]) rfl ⟨by rw [HFM.out], HBM.out⟩
end Go.Proofs.YtpbmmdoodmbneaaGreatDoor

/- Contract: trips of the reference. -/
namespace Go.Proofs.YtpbmmdoodmbneaaGreatDoor
open Go.RowKit Go.Sort

theorem filter_step {l : List Trp} {p : Trp → Bool} {k : Nat} (h : k < l.length) : srtS ((l.take (k + 1)).filter p) = if p (tpi l k) = true then insS (tpi l k) (srtS ((l.take k).filter p)) else srtS ((l.take k).filter p) := by
  rw [take_tpi h, List.filter_append]
  unfold srtS
  rw [List.foldl_append]
  by_cases hp : p (tpi l k) = true
  · rw [if_pos hp]; simp [hp]
  · rw [if_neg hp]; simp [hp]
theorem srt_le {l : List Trp} (p : Trp → Bool) (k : Nat) : (srtS ((l.take k).filter p)).length ≤ k := by
  rw [(srtS_perm _).length_eq]
  have := List.length_filter_le p (l.take k)
  rw [List.length_take] at this
  omega
theorem ins_where {x : Trp} {l : List Trp} (hs : l.Pairwise leS) {q : Nat} (hq : q ≤ l.length) (h1 : ∀ j, q ≤ j → j < l.length → x.start < (tpi l j).start) (h2 : q = 0 ∨ ¬ x.start < (tpi l (q - 1)).start) : insS x l = l.take q ++ x :: l.drop q := by
  refine insS_at hq (fun j hj => ?_) (fun h => h1 q (Nat.le_refl _) h)
  rcases h2 with rfl | h2
  · omega
  · by_cases e : j = q - 1
    · rw [e]; exact h2
    · have := List.pairwise_iff_getElem.1 hs j (q - 1) (by omega) (by omega) (by omega)
      unfold leS at this
      rw [← tpi_lt, ← tpi_lt] at this
      omega

theorem gd_if {p c : Bool} {A : Prop} {v x : Value} (hc : p = c) (hv : v = cond c x undef) (hA : c = true → A) : if p = true then A else v = undef := by
  subst hc
  cases p
  · rw [if_neg (by decide)]; exact hv
  · rw [if_pos rfl]; exact hA rfl
theorem gOn_at {ops : Array Oper} {V : Nat → Value} {i j : Nat} {o : Oper} {b f c : Bool} (ho : ops[i]? = some o) (hg : o.guard = some (j, b)) (hV : V j = cond f (.bool c) undef) : gOn ops V i = (f && (c == b)) := by
  unfold gOn
  rw [ho]
  dsimp only
  rw [hg]
  dsimp only
  rw [hV]
  cases f <;> rfl
theorem gOn_at0 {ops : Array Oper} {V : Nat → Value} {i j : Nat} {o : Oper} {b c : Bool} (ho : ops[i]? = some o) (hg : o.guard = some (j, b)) (hV : V j = .bool c) : gOn ops V i = (c == b) := by
  unfold gOn
  rw [ho]
  dsimp only
  rw [hg]
  dsimp only
  rw [hV]
theorem and_l {a b : Bool} (h : (a && b) = true) : a = true := by cases a <;> simp_all
theorem pk1 (c u d : Bool) (h : c = true) : (if u = true then Value.bool true else cond (c && (u == false)) (.bool d) undef) = cond c (.bool (cond u true d)) undef := by subst h; cases u <;> rfl
theorem pk2 (c u d : Bool) (h : c = true) : (if u = true then cond (c && (u == true)) (.bool d) undef else Value.bool false) = cond c (.bool (cond u d false)) undef := by subst h; cases u <;> rfl
theorem pk4 (u d : Bool) : (if u = true then cond (u == true) (.bool d) undef else Value.bool false) = .bool (cond u d false) := by cases u <;> rfl
theorem gd_on {p : Bool} {A B : Prop} (hp : p = true) (h : A) : if p = true then A else B := by rw [if_pos hp]; exact h
theorem cd {c : Bool} {x : Value} (hc : c = true) : cond c x undef = x := by subst hc; rfl
theorem gt_ints {o : Oper} {a : Act} {w : World} {K : Act → World → Prop} {Q : Exit → Act → World → Prop} (x y : Operand) (ho : o.op = .binOp .gtr 3 x y 3) (p q : Int) (hx : a.eval x = .int .i64 p) (hy : a.eval y = .int .i64 q)
    (h : K (a.put o.dst (.bool (decide (q < p)))) w) : o.wp Tryz.prog a w K Q := by
  unfold Oper.wp execOp
  simp only [ho]
  generalize a.eval = ev at *
  go_simp
  exact h
def rt7d (i : Nat) : Nat := i + 24
def rt7V (c : Bool) (q : Nat) (ov lv : Value) (g k b off : Nat) (s0 s1 : Int) : Nat → Value
  | 0 => .int .i64 q
  | 1 => .bool c
  | 2 => .bool c
  | 3 => cond (c == true) ov undef
  | 4 => cond (c == true) (.int .i64 q) undef
  | 5 => cond (c == true) (.int .i64 ((q - 1 : Nat) : Int)) undef
  | 6 => cond (c == true) (.pointer (some ⟨g, 0 + (q - 1) * 4, none⟩)) undef
  | 7 => cond (c == true) (.pointer (some ⟨g, 0 + (q - 1) * 4 + 2, none⟩)) undef
  | 8 => cond (c == true) (.int .i64 s0) undef
  | 9 => cond (c == true) lv undef
  | 10 => cond (c == true) (.int .i64 k) undef
  | 11 => cond (c == true) (.pointer (some ⟨b, off + k * 4, none⟩)) undef
  | 12 => cond (c == true) (.pointer (some ⟨b, off + k * 4 + 2, none⟩)) undef
  | 13 => cond (c == true) (.int .i64 s1) undef
  | 14 => cond (c == true) (.bool (decide (s1 < s0))) undef
  | _ => .bool (cond c (decide (s1 < s0)) false)
set_option maxHeartbeats 4000000 in
set_option maxRecDepth 100000 in
theorem rtrips_any (lv : Value) (l : List Trp) (y : List UInt8) (w : World) (hl : SX w lv l) (hn : l.length ≤ 100000) :
    Calls Tryz.prog 26 #[lv, .string (bs y)] w fun e w' => ∃ v, e = .returned v ∧ SX w' v (srtS (l.filter fun x => x.truck == y)) ∧ Below w.heap.size w w' := by
  obtain ⟨a, cap, rfl, h1, h2, h3⟩ := hl
  have H3 := Lib.hid h3
  clear h3
  go_enter Tryz.func26, Tryz.ntmps26
  go_wp2_with fail
  go_loopw [5, 6] (fun ov i wr => ∃ k : Nat, k ≤ l.length ∧ i = .int .i64 k ∧ Hid (Below w.heap.size w wr) ∧ Hid (OwnX wr w.heap.size ov (srtS ((l.take k).filter fun x => x.truck == y)))) (fun _ i _ => l.length - (intOf i).toNat)
  case atStart => exact ⟨0, Nat.zero_le _, rfl, Below.refl _ _, OwnX_nil _ _⟩
  case round =>
    obtain ⟨k, hk, rfl, hb, ho⟩ := hrel
    by_cases hlt : k < l.length
    · obtain ⟨b, off, rfl, hc⟩ := H3.out k hlt
      have HC := Lib.hid (hc.keep hb.out)
      have H3c : Hid (∀ i, i < l.length → XAt w b (off + i * 4) (tpi l i)) := fun i hi => by
        obtain ⟨b', off', e, hx⟩ := H3.out i hi
        simp only [Option.some.injEq, Addr.mk.injEq] at e
        obtain ⟨rfl, rfl, _⟩ := e
        exact hx
      have c1 := HC.out.c1
      have i1 : (k : Int) < (l.length : Int) := by omega
      have i2 : (k : Int) < (cap : Int) := by omega
      have HST := Lib.hid (filter_step (p := fun x => x.truck == y) hlt)
      have hle := srt_le (l := l) (fun x => x.truck == y) k
      have HSO : Hid ((srtS ((l.take k).filter fun x => x.truck == y)).Pairwise leS) := srtS_sorted _
      obtain ⟨x, hx⟩ : ∃ x, tpi l k = x := ⟨_, rfl⟩
      rw [hx] at HC HST c1
      have HXK := Lib.hid hx
      clear hx hc
      have hbe := bs_eq x.truck y
      by_cases he : x.truck = y
      rotate_left
      · have HN : Hid (srtS ((l.take (k + 1)).filter fun x => x.truck == y) = srtS ((l.take k).filter fun x => x.truck == y)) := by show _ = _; rw [HST.out, if_neg (by simpa using he)]
        rw [show (x.truck == y) = false by simpa using he] at hbe
        clear he HST
        go_wp2_with fail
        go_roundw
        case rel => exact ⟨k + 1, by omega, by go_num, hb.out, by rw [HN.out]; exact ho.out⟩
        case measure => simp [intOf]; omega
      have HN : Hid (srtS ((l.take (k + 1)).filter fun x => x.truck == y) = insS x (srtS ((l.take k).filter fun x => x.truck == y))) := by show _ = _; rw [HST.out, if_pos (by simpa using he)]
      rw [show (x.truck == y) = true by simpa using he] at hbe
      clear he HST
      obtain ⟨r, hr⟩ : ∃ r, srtS ((l.take k).filter fun x => x.truck == y) = r := ⟨_, rfl⟩
      rw [hr] at ho HSO HN hle
      clear hr
      obtain ⟨oa, oc, rfl, hoc⟩ := ho.out.form
      have c2 := HC.out.c2
      go_wp2_with fail
      go_loopw [7] (fun j w2 => ∃ q : Nat, q ≤ r.length ∧ j = .int .i64 q ∧ Hid (∃ m, w2 = wr.drewN m) ∧ Hid (∀ p, q ≤ p → p < r.length → x.start < (tpi r p).start)) (fun j _ => (intOf j).toNat)
      case atStart => exact ⟨r.length, Nat.le_refl _, rfl, ⟨0, rfl⟩, Lib.hid fun p h1 h2 => by omega⟩
      case round =>
        obtain ⟨w2, rfl⟩ : ∃ z : World, z = wr := ⟨_, rfl⟩
        obtain ⟨q, hq, rfl, hW, hN⟩ := hrel
        have HB2 := Lib.hid (below_quiet hW.out)
        have c2' := cell_keep HB2.out c2
        have HO2 := Lib.hid (ho.out.below HB2.out)
        obtain ⟨c, hc0⟩ : ∃ c, decide (0 < q) = c := ⟨_, rfl⟩
        have HC0 : Hid (decide ((0 : Int) < (q : Int)) = c) := by show _ = _; rw [← hc0]; simp
        have HQ0 : Hid (c = true → 0 < q) := fun h => by rw [h] at hc0; exact of_decide_eq_true hc0
        have HQ1 : Hid (c = true → (q : Int) - 1 = ((q - 1 : Nat) : Int)) := fun h => by have := HQ0.out h; omega
        have HQ2 : Hid (c = false → q = 0) := fun h => by rw [h] at hc0; have := of_decide_eq_false hc0; omega
        clear hc0
        obtain ⟨g, hg⟩ : ∃ g, 0 < r.length → oa = some ⟨g, 0, none⟩ := by
          rcases ho.out.shape with ⟨_, e⟩ | ⟨g, cp, e, _⟩
          · exact ⟨0, fun h => by rw [e] at h; simp at h⟩
          · simp only [Value.slice.injEq] at e
            exact ⟨g, fun _ => e.1⟩
        have HOA : Hid (c = true → Value.slice oa r.length oc = .slice (some ⟨g, 0, none⟩) r.length oc) := fun h => by rw [hg (by have := HQ0.out h; omega)]
        have HS0 : Hid (c = true → w2.cell? ⟨g, 0 + (q - 1) * 4 + 2, none⟩ = some (.int .i64 (tpi r (q - 1)).start)) := fun h => by
          have h0 := HQ0.out h
          have ho' := HO2.out
          rw [hg (by omega)] at ho'
          have := (ho'.at (i := q - 1) (by omega)).c2
          rwa [Nat.zero_add]
        clear hg
        go_wp2_with fail
        refine wp_name fun a0 ha0 => ?_
        have z0 : a0.eval (.tmp 0) = .slice (some ⟨b, off, none⟩) l.length cap := by rw [ha0]; rfl
        have z5 : a0.eval (.tmp 5) = .slice oa r.length oc := by rw [ha0]; rfl
        have z6 : a0.eval (.tmp 6) = .int .i64 k := by rw [ha0]; rfl
        have z7 : a0.eval (.tmp 7) = .int .i64 q := by rw [ha0]; rfl
        refine wp_region_gd rt7d (rt7V c q (.slice oa r.length oc) (.slice (some ⟨b, off, none⟩) l.length cap) g k b off (tpi r (q - 1)).start x.start) (fun w' => ∃ m, w' = w2.drewN m) mixed (by kernel_rfl) (by rw [ha0]; rfl) (by kernel_rfl) ⟨1, rfl⟩ ?_ ?_
        · rintro i op a w7 hop hdep hsm hw7 K hK
          have hb7 := below_quiet hw7
          have hi : i < 16 := (Array.getElem?_eq_some_iff.1 hop).1
          have q0 := (hsm.eval (m := 0) (by decide)).trans z0
          have q5 := (hsm.eval (m := 5) (by decide)).trans z5
          have q6 := (hsm.eval (m := 6) (by decide)).trans z6
          have q7 := (hsm.eval (m := 7) (by decide)).trans z7
          have dv : ∀ e ∈ op.after, Region.binds .any e = true → a.eval (.tmp (rt7d e.on)) = (rt7V c q (.slice oa r.length oc) (.slice (some ⟨b, off, none⟩) l.length cap) g k b off (tpi r (q - 1)).start x.start) e.on := fun e he hbi => hdep e he hbi
          have hn : ∀ v, v = (rt7V c q (.slice oa r.length oc) (.slice (some ⟨b, off, none⟩) l.length cap) g k b off (tpi r (q - 1)).start x.start) i → K (a.put op.dst v) w7 := fun v hv => hK _ _ hw7 hv
          have hcase : i = 0 ∨ i = 1 ∨ i = 2 ∨ i = 3 ∨ i = 4 ∨ i = 5 ∨ i = 6 ∨ i = 7 ∨ i = 8 ∨ i = 9 ∨ i = 10 ∨ i = 11 ∨ i = 12 ∨ i = 13 ∨ i = 14 ∨ i = 15 := by omega
          rcases hcase with h | h | h | h | h | h | h | h | h | h | h | h | h | h | h | h <;> subst h <;> have ho' := Option.some.inj hop <;> subst ho'
          · refine gd_on rfl ?_; exact vl_move (.tmp 7) rfl _ q7 (hn _ rfl)
          · refine gd_on rfl ?_; exact gt_ints (.tmp 24) _ rfl (q : Int) 0 (dv ⟨0, .data⟩ (by simp) rfl) rfl (hn _ (by rw [HC0.out]; rfl))
          · refine gd_on rfl ?_; exact vl_move (.tmp 25) rfl _ (dv ⟨1, .data⟩ (by simp) rfl) (hn _ rfl)
          · refine gd_if (gOn_at0 rfl rfl rfl) rfl fun hc => ?_
            exact vl_move (.tmp 5) rfl _ q5 (hn _ (cd hc).symm)
          · refine gd_if (gOn_at0 rfl rfl rfl) rfl fun hc => ?_
            exact vl_move (.tmp 7) rfl _ q7 (hn _ (cd hc).symm)
          · refine gd_if (gOn_at0 rfl rfl rfl) rfl fun hc => ?_
            exact wp_sub1 (.tmp 28) _ rfl (q : Int) 1 ((dv ⟨4, .data⟩ (by simp) rfl).trans (cd hc)) rfl (by omega) (hn _ (by rw [HQ1.out (by simpa using hc)]; exact (cd hc).symm))
          · refine gd_if (gOn_at0 rfl rfl rfl) rfl fun hc => ?_
            exact ix_trips (.tmp 27) (.tmp 29) g 0 r.length oc (q - 1) rfl (((dv ⟨3, .data⟩ (by simp) rfl).trans (cd hc)).trans (HOA.out (by simpa using hc))) ((dv ⟨5, .data⟩ (by simp) rfl).trans (cd hc)) (by have := HQ0.out (by simpa using hc); omega) hoc (hn _ (cd hc).symm)
          · refine gd_if (gOn_at0 rfl rfl rfl) rfl fun hc => ?_
            exact fa_trip (.tmp 30) 2 (by omega) rfl g (0 + (q - 1) * 4) ((dv ⟨6, .data⟩ (by simp) rfl).trans (cd hc)) (hn _ (cd hc).symm)
          · refine gd_if (gOn_at0 rfl rfl rfl) rfl fun hc => ?_
            exact vl_load 3 agg_int0 (.tmp 31) rfl _ _ ((dv ⟨7, .data⟩ (by simp) rfl).trans (cd hc)) (cell_keep hb7 (HS0.out (by simpa using hc))) (hn _ (cd hc).symm)
          · refine gd_if (gOn_at0 rfl rfl rfl) rfl fun hc => ?_
            exact vl_move (.tmp 0) rfl _ q0 (hn _ (cd hc).symm)
          · refine gd_if (gOn_at0 rfl rfl rfl) rfl fun hc => ?_
            exact vl_move (.tmp 6) rfl _ q6 (hn _ (cd hc).symm)
          · refine gd_if (gOn_at0 rfl rfl rfl) rfl fun hc => ?_
            exact ix_trips (.tmp 33) (.tmp 34) b off l.length cap k rfl ((dv ⟨9, .data⟩ (by simp) rfl).trans (cd hc)) ((dv ⟨10, .data⟩ (by simp) rfl).trans (cd hc)) hlt h1 (hn _ (cd hc).symm)
          · refine gd_if (gOn_at0 rfl rfl rfl) rfl fun hc => ?_
            exact fa_trip (.tmp 35) 2 (by omega) rfl b (off + k * 4) ((dv ⟨11, .data⟩ (by simp) rfl).trans (cd hc)) (hn _ (cd hc).symm)
          · refine gd_if (gOn_at0 rfl rfl rfl) rfl fun hc => ?_
            exact vl_load 3 agg_int0 (.tmp 36) rfl _ _ ((dv ⟨12, .data⟩ (by simp) rfl).trans (cd hc)) (cell_keep hb7 c2') (hn _ (cd hc).symm)
          · refine gd_if (gOn_at0 rfl rfl rfl) rfl fun hc => ?_
            exact gt_ints (.tmp 32) (.tmp 37) rfl _ _ ((dv ⟨8, .data⟩ (by simp) rfl).trans (cd hc)) ((dv ⟨13, .data⟩ (by simp) rfl).trans (cd hc)) (hn _ (cd hc).symm)
          · refine gd_on rfl ?_; exact vl_pick (.tmp 26) (.tmp 38) (.const (.bool false)) rfl c _ _ (dv ⟨2, .data⟩ (by simp) rfl) (dv ⟨14, .data⟩ (by simp) rfl) rfl (hn _ (pk4 _ _))
        · rintro a w7 hsm hw7 hv
          have v39 : a.eval (.tmp 39) = .bool (cond c (decide (x.start < (tpi r (q - 1)).start)) false) := hv 15 (by decide)
          have hsm' : Sm [24, 25, 26, 27, 28, 29, 30, 31, 32, 33, 34, 35, 36, 37, 38, 39] a0 a := hsm
          have HA := hsm'.lit
          simp only [List.foldl] at HA
          rw [v39] at HA
          generalize a.eval (.tmp 24) = t24 at HA
          generalize a.eval (.tmp 25) = t25 at HA
          generalize a.eval (.tmp 26) = t26 at HA
          generalize a.eval (.tmp 27) = t27 at HA
          generalize a.eval (.tmp 28) = t28 at HA
          generalize a.eval (.tmp 29) = t29 at HA
          generalize a.eval (.tmp 30) = t30 at HA
          generalize a.eval (.tmp 31) = t31 at HA
          generalize a.eval (.tmp 32) = t32 at HA
          generalize a.eval (.tmp 33) = t33 at HA
          generalize a.eval (.tmp 34) = t34 at HA
          generalize a.eval (.tmp 35) = t35 at HA
          generalize a.eval (.tmp 36) = t36 at HA
          generalize a.eval (.tmp 37) = t37 at HA
          generalize a.eval (.tmp 38) = t38 at HA
          rw [HA, ha0]
          simp only [Act.put, List.setIfInBounds_toArray, List.set_cons_zero, List.set_cons_succ]
          have hw7' : ∃ m, w7 = wr.drewN m := by
            obtain ⟨m1, rfl⟩ := hW.out
            obtain ⟨m2, rfl⟩ := hw7
            exact ⟨m1 + m2, World.drewN_drewN _ _ _⟩
          have HW7 := Lib.hid hw7'
          have HB7 := Lib.hid (below_quiet hw7')
          clear HA hsm hsm' hv v39 ha0 z0 z5 z6 z7 HC0 HOA HS0 c2' HO2 hw7 hw7' HB2
          cases hcd : cond c (decide (x.start < (tpi r (q - 1)).start)) false
          rotate_left
          · have hct : c = true := by cases c; cases hcd; rfl
            rw [hct] at hcd
            have hst : x.start < (tpi r (q - 1)).start := of_decide_eq_true hcd
            have h0 := HQ0.out hct
            have hw : IntKind.i64.wrap ((q : Int) - 1) = ((q - 1 : Nat) : Int) := by rw [HQ1.out hct]; exact IntWalk.i64_in _ (by omega)
            have HNX : Hid (∀ p, q - 1 ≤ p → p < r.length → x.start < (tpi r p).start) := fun p hp hpl => by
              by_cases e : p = q - 1
              · rw [e]; exact hst
              · exact hN.out p (by omega) hpl
            clear hcd hct HQ0 HQ1 HQ2
            go_wp2_with fail
            go_roundw
            case rel => exact ⟨q - 1, by omega, rfl, HW7.out, HNX.out⟩
            case measure => simp [intOf]; omega
          have HE : Hid (insS x r = r.take q ++ x :: r.drop q) := ins_where HSO.out hq (fun p h1 h2 => hN.out p h1 h2) (by
            cases c
            · exact .inl (HQ2.out rfl)
            · exact .inr (of_decide_eq_false hcd))
          clear hcd HQ0 HQ1 HQ2 hN
          obtain ⟨e0, e1, e2, e3⟩ := HC.out.keep HB7.out
          have HO7 := Lib.hid (ho.out.below HB7.out)
          have hs7 := HB7.out.size
          have hsr := hb.out.size
          have hrl : r.length ≤ 100000 := by omega
          clear c1 c2
          go_wp2_with (at_builtin; refine wpList_app_X rfl (.tmp 42) (.tmp 47) rfl w.heap.size _ r [x] rfl (HO7.out.alloc _) ⟨w7.heap.size, 0, none⟩ 1 1 rfl (sX_one ⟨by simp, by simp, by simp, by simp⟩) (by simp; omega) (by simp; omega) ?_)
          intro v8 w8 ho8 hg8 hat8
          have hb78 : Below w.heap.size w w8 := below_own ((ext_trans hb.out HB7.out).alloc (by omega) _) hg8 (fun n hn => (HO7.out.lt n hn).1)
          obtain ⟨g8, cp8, rfl, hcp8⟩ : ∃ g cap, v8 = .slice (some ⟨g, 0, none⟩) (r.length + 1) cap ∧ r.length + 1 ≤ cap := by
            rcases ho8.shape with ⟨_, e⟩ | ⟨g, cap, e, _, _, hcp⟩
            · simp at e
            · rw [List.length_append, List.length_singleton] at e hcp
              exact ⟨g, cap, e, hcp⟩
          have HO8 : Hid (OwnX w8 w.heap.size (.slice (some ⟨g8, 0, none⟩) (r.length + 1) cp8) (shL r x r.length)) := by show OwnX _ _ _ _; rw [shL_all]; exact ho8
          have HG8 : Hid (w.heap.size ≤ g8 ∧ b < w.heap.size) := ⟨(ho8.lt g8 rfl).1, World.block_lt_of_cell? w _ (H3c.out k hlt).c0⟩
          have HB8 := Lib.hid hb78
          have hw1 : IntKind.i64.wrap (((r.length + 1 : Nat) : Int) - 1) = (r.length : Int) := by rw [show (((r.length + 1 : Nat) : Int) - 1) = (r.length : Int) by omega]; exact IntWalk.i64_in _ (by omega)
          have hw2 : IntKind.i64.wrap ((r.length : Int) + 1 - 1) = (r.length : Int) := by rw [show ((r.length : Int) + 1 - 1) = (r.length : Int) by omega]; exact IntWalk.i64_in _ (by omega)
          clear ho8 hg8 hat8 hb78 e0 e1 e2 e3 HO7 HB7 hs7 HW7 hW
          go_wp2_with fail
          go_loopw [8] (fun j w9 => ∃ j' : Nat, q ≤ j' ∧ j' ≤ r.length ∧ j = .int .i64 j' ∧ Hid (Below w.heap.size w w9) ∧ Hid (OwnX w9 w.heap.size (.slice (some ⟨g8, 0, none⟩) (r.length + 1) cp8) (shL r x j'))) (fun j _ => (intOf j).toNat)
          case atStart => exact ⟨r.length, hq, Nat.le_refl _, rfl, HB8.out, HO8.out⟩
          case round =>
            obtain ⟨w9, rfl⟩ : ∃ z : World, z = wr := ⟨_, rfl⟩
            obtain ⟨j, hqj, hjr, rfl, hB9, hO9⟩ := hrel
            have hlen := shL_len (l := r) (x := x) hjr
            have hfz := hO9.out.fzH
            by_cases hqlt : q < j
            · obtain ⟨p, rfl⟩ : ∃ p, j = p + 1 := ⟨j - 1, by omega⟩
              have hSET := Lib.hid (shL_set (l := r) (x := x) hjr)
              have hat1 := hO9.out.at (i := p) (by omega)
              rw [shL_at (by omega) hjr, tpi_left (show p < r.length by omega)] at hat1
              obtain ⟨d0, d1, d2, d3⟩ := hat1
              obtain ⟨f0, f1, f2, f3⟩ := hO9.out.at (i := p + 1) (by omega)
              have HSX := Lib.hid (hO9.out.setH (p + 1) (by omega) (tpi r p))
              rw [hSET.out] at HSX
              have HBX : Hid (Below w.heap.size w (setY w9 g8 ((p + 1) * 4) (tpi r p))) := below_own hB9.out (setY_grown _ _ _ _) (fun n hn => by cases hn; exact HG8.out.1)
              have hw3 : IntKind.i64.wrap (((p + 1 : Nat) : Int) - 1) = (p : Int) := by rw [show (((p + 1 : Nat) : Int) - 1) = (p : Int) by omega]; exact IntWalk.i64_in _ (by omega)
              have hw4 : IntKind.i64.wrap ((p : Int) + 1 - 1) = (p : Int) := by rw [show ((p : Int) + 1 - 1) = (p : Int) by omega]; exact IntWalk.i64_in _ (by omega)
              have i3 : (q : Int) < ((p + 1 : Nat) : Int) := by omega
              have i4 : ((p + 1 : Nat) : Int) < ((r.length + 1 : Nat) : Int) := by omega
              have i5 : ((p + 1 : Nat) : Int) < (cp8 : Int) := by omega
              have i6 : (p : Int) < ((r.length + 1 : Nat) : Int) := by omega
              have i7 : (p : Int) < (cp8 : Int) := by omega
              generalize tpi r p = y at *
              clear hlen hSET hO9 hB9
              go_wp2_with fail
              go_roundw
              case rel => exact ⟨p, by omega, by omega, rfl, HBX.out, HSX.out⟩
              case measure => simp [intOf]
            · obtain rfl : q = j := by omega
              have i3 : ¬ (q : Int) < (q : Int) := by omega
              obtain ⟨e0, e1, e2, e3⟩ := (H3c.out k hlt).keep hB9.out
              obtain ⟨f0, f1, f2, f3⟩ := hO9.out.at (i := q) (by omega)
              have HSX := Lib.hid (hO9.out.setH q (by omega) (tpi l k))
              rw [HXK.out] at e0 e1 e2 e3 HSX
              rw [shL_end hq, ← HE.out, ← HN.out] at HSX
              have HBX : Hid (Below w.heap.size w (setY w9 g8 (q * 4) x)) := below_own hB9.out (setY_grown _ _ _ _) (fun n hn => by cases hn; exact HG8.out.1)
              have i4 : (q : Int) < ((r.length + 1 : Nat) : Int) := by omega
              have i5 : (q : Int) < (cp8 : Int) := by omega
              clear hlen hO9 hB9
              go_wp2_with fail
              go_roundw
              case rel => exact ⟨k + 1, by omega, by go_num, HBX.out, HSX.out⟩
              case measure => simp [intOf]; omega
    · obtain rfl : k = l.length := by omega
      have i1 : ¬ (l.length : Int) < (l.length : Int) := by omega
      rw [List.take_length] at ho
      obtain ⟨oa, oc, rfl, hoc⟩ := ho.out.form
      go_wp2_with fail
      go_ret
      exact ⟨_, rfl, ho.out.s, hb.out⟩
end Go.Proofs.YtpbmmdoodmbneaaGreatDoor

/- Contracts: one, Check and Last of the reference of transport. -/
namespace Go.Proofs.YtpbmmdoodmbneaaGreatDoor
open Go.RowKit Go.Sort

theorem fndM_some {ms : List Mov} {x : List UInt8} {m : Mov} (h : fndM ms x = some m) : m ∈ ms ∧ m.item = x := by
  unfold fndM at h
  exact ⟨List.mem_of_find?_eq_some h, by have := List.find?_some h; exact eq_of_beq this⟩
theorem fndK_some {tr : List Trk} {x : List UInt8} {t : Trk} (h : fndK tr x = some t) : t ∈ tr ∧ t.name = x := by
  unfold fndK at h
  exact ⟨List.mem_of_find?_eq_some h, by have := List.find?_some h; exact eq_of_beq this⟩
theorem any_trip {l : List Trp} {k j : Nat} {x : List UInt8} (hj : j < k) (hk : k ≤ l.length) (h : (tpi l j).item = x) : ((l.take k).any fun b => b.item == x) = true := by
  refine List.any_eq_true.2 ⟨tpi l j, ?_, by simpa using h⟩
  refine List.mem_iff_getElem.2 ⟨j, by rw [List.length_take]; omega, ?_⟩
  rw [List.getElem_take, tpi_lt (by omega)]
theorem none_trip {l : List Trp} {k : Nat} {x : List UInt8} (hk : k ≤ l.length) (h : ∀ j, j < k → (tpi l j).item ≠ x) : ((l.take k).any fun b => b.item == x) = false := by
  rw [List.any_eq_false]
  intro b hb
  obtain ⟨j, hj, rfl⟩ := List.mem_iff_getElem.1 hb
  rw [List.length_take] at hj
  rw [List.getElem_take, ← tpi_lt (by omega)]
  simpa using h j (by omega)
theorem enter_rHours : ∀ args w, (callFunc 51 args).run Tryz.prog w = .ok (.enter 51 args) w := enters_of Tryz.func51 (by kernel_rfl) rfl
theorem enter_rempty : ∀ args w, (callFunc 28 args).run Tryz.prog w = .ok (.enter 28 args) w := enters_of Tryz.func28 (by kernel_rfl) rfl
theorem ix_trucks {o : Oper} {a : Act} {w : World} {K : Act → World → Prop} {Q : Exit → Act → World → Prop} (x y : Operand) (b off n c : Nat) (i : Nat) (ho : o.op = .indexAddr 22 x y) (hx : a.eval x = .slice (some ⟨b, off, none⟩) n c) (hy : a.eval y = .int .i64 i) (hi : i < n) (hc : n ≤ c)
    (h : K (a.put o.dst (.pointer (some ⟨b, off + i * 3, none⟩))) w) : o.wp Tryz.prog a w K Q := by
  have i1 : (i : Int) < n := by omega
  have i2 : (i : Int) < c := by omega
  unfold Oper.wp execOp
  simp only [ho]
  generalize a.eval = ev at *
  go_simp
  exact h
def ro17d (i : Nat) : Nat := i + 67
def ro17V (x : Trp) (t : Trk) (m : Mov) (hq : Int) (dv : Value) (X K M : Nat) : Nat → Value
  | 0 => .pointer (some ⟨X, 0 + 3, none⟩)
  | 1 => .int .i64 x.fin
  | 2 => .pointer (some ⟨X, 0 + 2, none⟩)
  | 3 => .int .i64 x.start
  | 4 => .agg #[.string (bs t.name), .int .i64 t.load, .int .i64 t.hours]
  | 5 => dv
  | 6 => .pointer (some ⟨M, 0 + 1, none⟩)
  | 7 => .int .i64 m.frm
  | 8 => .pointer (some ⟨M, 0 + 2, none⟩)
  | 9 => .int .i64 m.to
  | 10 => .int .i64 hq
  | 11 => .int .i64 (x.start + hq)
  | _ => .bool (x.fin != (x.start + hq))

set_option maxHeartbeats 4000000 in
set_option maxRecDepth 100000 in
theorem rone_any (mv v dv lv : Value) (ms : List Mov) (tr : List Trk) (d : List (List Int)) (l : List Trp) (i : Nat) (w : World) (hm : SM w mv ms) (h : SK w v tr) (hd : SS w dv d) (hl : SX w lv l) (hi : i < l.length) (hok : inE ms tr d = 0) :
    Calls Tryz.prog 25 #[mv, v, dv, lv, .int .i64 i] w (Ret w (.int .i64 (oneE ms tr d (l.take i) (tpi l i)))) := by
  have HM := Lib.hid hm
  have HK := Lib.hid h
  have HD := Lib.hid hd
  have HX := Lib.hid hl
  obtain ⟨ma, mc, rfl, _, _, _⟩ := hm
  obtain ⟨ka, kc, rfl, kn, km, _⟩ := h
  obtain ⟨da, dc, rfl, dn, dm, _⟩ := hd.open
  obtain ⟨xa, xc, rfl, xn, xm, x3⟩ := hl
  have X3 := Lib.hid x3
  unfold maxLen at km xm
  clear hd x3
  obtain ⟨hY, hMO⟩ := inE_ok hok
  have HYD := Lib.hid hY
  have HMO := Lib.hid hMO
  clear hY hMO hok
  obtain ⟨xb, xo, rfl, hx⟩ := X3.out i hi
  have HO : Hid (oneE ms tr d (l.take i) (tpi l i) = match fndM ms (tpi l i).item with
    | none => 8
    | some m => if ((l.take i).any fun b => b.item == (tpi l i).item) = true then 7 else
      match fndK tr (tpi l i).truck with
      | none => 8
      | some t => if t.load < m.mass then 25 else if (tpi l i).start < m.ready ∨ 1099511627776 < (tpi l i).start then 15 else if (tpi l i).fin ≠ (tpi l i).start + hoursV t d m.frm m.to then 17 else 0) := rfl
  have HYE := Lib.hid (fun (j : Nat) (y : List UInt8) hj h => any_trip (l := l) (k := i) (j := j) (x := y) hj (by omega) h)
  have HNO := Lib.hid (fun (y : List UInt8) h => none_trip (l := l) (k := i) (x := y) (by omega) h)
  have i1 : (i : Int) < (l.length : Int) := by omega
  have i2 : (i : Int) < (xc : Int) := by omega
  generalize oneE ms tr d (l.take i) (tpi l i) = R at *
  obtain ⟨x, hxx⟩ : ∃ x, tpi l i = x := ⟨_, rfl⟩
  rw [hxx] at hx HO
  clear hxx
  obtain ⟨c0, c1, c2, c3⟩ := hx
  go_enter Tryz.func25, Tryz.ntmps25
  go_wp2_with fail
  obtain ⟨W1, hW1⟩ : ∃ W1, W1 = w.alloc (.cells #[.string (bs x.item), .string (bs x.truck), .int .i64 x.start, .int .i64 x.fin] 43) := ⟨_, rfl⟩
  rw [← hW1]
  have hb1 : Below w.heap.size w W1 := by rw [hW1]; exact (Below.refl _ _).alloc (Nat.le_refl _) _
  have HX1 : Hid (XAt W1 w.heap.size 0 x) := by show XAt _ _ _ _; rw [hW1]; exact ⟨by simp, by simp, by simp, by simp⟩
  have HB1 := Lib.hid hb1
  obtain ⟨X, hX⟩ : ∃ X, X = w.heap.size := ⟨_, rfl⟩
  rw [← hX] at HX1 ⊢
  clear hW1 hb1 c0 c1 c2 c3 hX
  refine (rmove_any _ ms x.item _ (HM.out.keep HB1.out)).mono ?_
  rintro e w2 ⟨rfl, hb⟩
  have HB2 := Lib.hid (ext_trans HB1.out hb)
  have HX2 := Lib.hid (HX1.out.keep hb)
  clear hb HX1
  cases hfm : fndM ms x.item with
  | none =>
    have HR : Hid (R = 8) := by show _ = _; rw [HO.out, hfm]
    rw [show moV none = .tuple #[.agg #[.string ⟨#[]⟩, .int .i64 0, .int .i64 0, .int .i64 0, .int .i64 0], .bool false] from rfl]
    clear HO hfm
    go_wp2_with fail
    go_ret
    exact ⟨ret_int HR.out.symm, (HB2.out.alloc (by have := HB2.out.size; omega) _)⟩
  | some m =>
    have HO1 : Hid (R = if ((l.take i).any fun b => b.item == x.item) = true then 7 else
      match fndK tr x.truck with
      | none => 8
      | some t => if t.load < m.mass then 25 else if x.start < m.ready ∨ 1099511627776 < x.start then 15 else if x.fin ≠ x.start + hoursV t d m.frm m.to then 17 else 0) := by show _ = _; rw [HO.out, hfm]
    have hmr := HMO.out.rg m (fndM_some hfm).1
    rw [show moV (some m) = .tuple #[.agg #[.string (bs m.item), .int .i64 m.frm, .int .i64 m.to, .int .i64 m.ready, .int .i64 m.mass], .bool true] from rfl]
    clear HO hfm
    go_wp2_with fail
    obtain ⟨W3, hW3⟩ : ∃ W3, W3 = w2.alloc (.cells #[.string (bs m.item), .int .i64 m.frm, .int .i64 m.to, .int .i64 m.ready, .int .i64 m.mass] 39) := ⟨_, rfl⟩
    rw [← hW3]
    have hb3 : Below w2.heap.size w2 W3 := by rw [hW3]; exact (Below.refl _ _).alloc (Nat.le_refl _) _
    have HM3 : Hid (MAt W3 w2.heap.size 0 m) := by show MAt _ _ _ _; rw [hW3]; exact ⟨by simp, by simp, by simp, by simp, by simp⟩
    have HB3 := Lib.hid (ext_trans HB2.out hb3)
    have HX3 := Lib.hid (HX2.out.keep hb3)
    obtain ⟨M, hMM⟩ : ∃ M, M = w2.heap.size := ⟨_, rfl⟩
    rw [← hMM] at HM3 ⊢
    clear hW3 hb3 hMM HX2 HB2
    go_loopw [14] (fun j w4 => ∃ q : Nat, q ≤ i ∧ j = .int .i64 q ∧ Hid (Below W3.heap.size W3 w4) ∧ Hid (∀ p, p < q → (tpi l p).item ≠ x.item)) (fun j _ => i - (intOf j).toNat)
    case atStart => exact ⟨0, Nat.zero_le _, rfl, Below.refl _ _, Lib.hid fun p hp => by omega⟩
    case round =>
      obtain ⟨w4, rfl⟩ : ∃ z : World, z = wr := ⟨_, rfl⟩
      obtain ⟨q, hq, rfl, hW, hN⟩ := hrel
      by_cases hqk : q < i
      · obtain ⟨b', off', ha', hcp⟩ := X3.out q (by omega)
        have ha' := Option.some.inj ha'
        simp only [Addr.mk.injEq] at ha'
        obtain ⟨rfl, rfl, _⟩ := ha'
        have c0 := ((hcp.keep HB3.out).keep hW.out).c0
        have x0 : w4.cell? ⟨X, 0, none⟩ = some (.string (bs x.item)) := (HX3.out.keep hW.out).c0
        have j1 : (q : Int) < (i : Int) := by omega
        have j2 : (q : Int) < (l.length : Int) := by omega
        have j3 : (q : Int) < (xc : Int) := by omega
        clear hcp
        obtain ⟨y, hy⟩ : ∃ y, (tpi l q).item = y := ⟨_, rfl⟩
        rw [hy] at c0
        have HY := Lib.hid hy
        clear hy
        have hbe := bs_eq y x.item
        by_cases he : y = x.item
        · have HR : Hid (R = 7) := by show _ = _; rw [HO1.out, if_pos (HYE.out q x.item hqk (by rw [HY.out, he]))]
          rw [he] at hbe c0
          rw [show (x.item == x.item) = true by simp] at hbe
          clear HO1 he HYE
          go_wp2_with fail
          go_quiet (fail)
          go_wp2_with fail
          go_ret
          exact ⟨ret_int HR.out.symm, below_drewN' (ext_trans HB3.out hW.out) _⟩
        · rw [show (y == x.item) = false by simpa using he] at hbe
          go_wp2_with fail
          go_quiet (fail)
          go_wp2_with fail
          go_roundw
          case rel => exact ⟨q + 1, by omega, by go_num, below_drewN' hW.out _, fun p hp => by
            rcases Nat.lt_succ_iff_lt_or_eq.1 hp with h | h
            · exact hN.out p h
            · subst h; rw [HY.out]; exact he⟩
          case measure => simp [intOf]; omega
      have hqi : q = i := by omega
      have HO2 : Hid (R = match fndK tr x.truck with
        | none => 8
        | some t => if t.load < m.mass then 25 else if x.start < m.ready ∨ 1099511627776 < x.start then 15 else if x.fin ≠ x.start + hoursV t d m.frm m.to then 17 else 0) := by show _ = _; rw [HO1.out, if_neg (by rw [HNO.out _ (by rw [← hqi]; exact hN.out)]; decide)]
      have HB4 := Lib.hid (ext_trans HB3.out hW.out)
      have HX4 := Lib.hid (HX3.out.keep hW.out)
      have HM4 := Lib.hid (HM3.out.keep hW.out)
      have j1 : ¬ (q : Int) < (i : Int) := by omega
      have x1 : w4.cell? ⟨X, 1, none⟩ = some (.string (bs x.truck)) := HX4.out.c1
      clear HO1 HNO HYE hN hW hqi HX3 HM3 HB3
      go_wp2_with fail
      refine (rtruck_any _ tr x.truck _ (HK.out.keep HB4.out)).mono ?_
      rintro e w5 ⟨rfl, hb⟩
      have HB5 := Lib.hid (ext_trans HB4.out hb)
      have HX5 := Lib.hid (HX4.out.keep hb)
      have HM5 := Lib.hid (HM4.out.keep hb)
      clear hb HX4 HM4 x1
      cases hfk : fndK tr x.truck with
      | none =>
        have HR : Hid (R = 8) := by show _ = _; rw [HO2.out, hfk]
        rw [show tkV none = .tuple #[.agg #[.string ⟨#[]⟩, .int .i64 0, .int .i64 0], .bool false] from rfl]
        clear HO2 hfk
        go_wp2_with fail
        go_ret
        exact ⟨ret_int HR.out.symm, (HB5.out.alloc (by have := HB5.out.size; omega) _)⟩
      | some t =>
        have HO3 : Hid (R = if t.load < m.mass then 25 else if x.start < m.ready ∨ 1099511627776 < x.start then 15 else if x.fin ≠ x.start + hoursV t d m.frm m.to then 17 else 0) := by show _ = _; rw [HO2.out, hfk]
        have htm := (fndK_some hfk).1
        have hHR := hours_range HYD.out htm m.frm m.to
        rw [show tkV (some t) = .tuple #[.agg #[.string (bs t.name), .int .i64 t.load, .int .i64 t.hours], .bool true] from rfl]
        clear HO2 hfk htm
        obtain ⟨wC, hwC⟩ : ∃ wC, wC = w5.alloc (.cells #[.string (bs t.name), .int .i64 t.load, .int .i64 t.hours] 36) := ⟨_, rfl⟩
        have hbC : Below w5.heap.size w5 wC := by rw [hwC]; exact (Below.refl _ _).alloc (Nat.le_refl _) _
        have HKC : Hid (KAt wC w5.heap.size 0 t) := by show KAt _ _ _ _; rw [hwC]; exact ⟨by simp, by simp, by simp⟩
        have HBC := Lib.hid (ext_trans HB5.out hbC)
        have HXC := Lib.hid (HX5.out.keep hbC)
        have HMC := Lib.hid (HM5.out.keep hbC)
        clear hbC HX5 HM5 HB5
        obtain ⟨K, hK0⟩ : ∃ K, K = w5.heap.size := ⟨_, rfl⟩
        have k1 : wC.cell? ⟨K, 1, none⟩ = some (.int .i64 t.load) := by rw [hK0]; exact HKC.out.c1
        have m4 : wC.cell? ⟨M, 4, none⟩ = some (.int .i64 m.mass) := HMC.out.c4
        have m3 : wC.cell? ⟨M, 3, none⟩ = some (.int .i64 m.ready) := HMC.out.c3
        have x2 : wC.cell? ⟨X, 2, none⟩ = some (.int .i64 x.start) := HXC.out.c2
        rw [← hK0] at HKC
        go_upto_region 13 with (fail)
        rw [← hwC, ← hK0]
        clear hwC hK0
        by_cases g1 : t.load < m.mass
        · have HR : Hid (R = 25) := by show _ = _; rw [HO3.out, if_pos g1]
          have d1 : decide (t.load < m.mass) = true := by rw [decide_eq_true_eq]; exact g1
          clear HO3
          go_wp2_with fail
          go_ret
          exact ⟨ret_int HR.out.symm, HBC.out⟩
        have d1 : decide (t.load < m.mass) = false := by rw [decide_eq_false_iff_not]; exact g1
        have HO4 : Hid (R = if x.start < m.ready ∨ 1099511627776 < x.start then 15 else if x.fin ≠ x.start + hoursV t d m.frm m.to then 17 else 0) := by show _ = _; rw [HO3.out, if_neg g1]
        clear HO3
        by_cases g2 : x.start < m.ready
        · have HR : Hid (R = 15) := by show _ = _; rw [HO4.out, if_pos (.inl g2)]
          have d2 : decide (x.start < m.ready) = true := by rw [decide_eq_true_eq]; exact g2
          clear HO4
          go_wp2_with fail
          go_ret
          exact ⟨ret_int HR.out.symm, HBC.out⟩
        have d2 : decide (x.start < m.ready) = false := by rw [decide_eq_false_iff_not]; exact g2
        by_cases g3 : 1099511627776 < x.start
        · have HR : Hid (R = 15) := by show _ = _; rw [HO4.out, if_pos (.inr g3)]
          have d3 : decide (1099511627776 < x.start) = true := by rw [decide_eq_true_eq]; exact g3
          clear HO4
          go_wp2_with fail
          go_ret
          exact ⟨ret_int HR.out.symm, HBC.out⟩
        have d3 : decide (1099511627776 < x.start) = false := by rw [decide_eq_false_iff_not]; exact g3
        obtain ⟨hq, hhq⟩ : ∃ hq, hoursV t d m.frm m.to = hq := ⟨_, rfl⟩
        have HO5 : Hid (R = if x.fin ≠ x.start + hq then 17 else 0) := by show _ = _; rw [HO4.out, if_neg (by omega), hhq]
        rw [hhq] at hHR
        have HHQ := Lib.hid hhq
        clear HO4 hhq
        go_wp2_with fail
        clear k1 m4 m3 x2
        refine wp_name fun a0 ha0 => ?_
        have z11 : a0.eval (.tmp 11) = .pointer (some ⟨X, 0, none⟩) := by rw [ha0]; rfl
        have z15 : a0.eval (.tmp 15) = .pointer (some ⟨K, 0, none⟩) := by rw [ha0]; rfl
        have z12 : a0.eval (.tmp 12) = .pointer (some ⟨M, 0, none⟩) := by rw [ha0]; rfl
        have z2 : a0.eval (.tmp 2) = .slice da d.length dc := by rw [ha0]; rfl
        refine wp_region_ipf ro17d (fun i v _ => v = (ro17V x t m hq (.slice da d.length dc) X K M i)) (fun w' => Below wC.heap.size wC w') mixed (by kernel_rfl) (by rw [ha0]; rfl) (by kernel_rfl) (Below.refl _ _).drew (fun i v w w' h _ => h) ?_ ?_
        · rintro i op a w10 hop hdep hsm hb hfr K0 hK
          have hi : i < 13 := (Array.getElem?_eq_some_iff.1 hop).1
          have q11 := (hsm.eval (m := 11) (by decide)).trans z11
          have q15 := (hsm.eval (m := 15) (by decide)).trans z15
          have q12 := (hsm.eval (m := 12) (by decide)).trans z12
          have q2 := (hsm.eval (m := 2) (by decide)).trans z2
          have kx := HXC.out.keep hb
          have kt := HKC.out.keep hb
          have km := HMC.out.keep hb
          have hbw : Below w.heap.size w w10 := ext_trans HBC.out hb
          have dv : ∀ e ∈ op.after, Region.binds .any e = true → a.eval (.tmp (ro17d e.on)) = (ro17V x t m hq (.slice da d.length dc) X K M e.on) := fun e he hbi => hdep e he hbi
          have hn : ∀ v, v = (ro17V x t m hq (.slice da d.length dc) X K M i) → K0 (a.put op.dst v) w10 := fun v hv => hK _ _ hb (Below.refl _ _) hv
          have hcase : i = 0 ∨ i = 1 ∨ i = 2 ∨ i = 3 ∨ i = 4 ∨ i = 5 ∨ i = 6 ∨ i = 7 ∨ i = 8 ∨ i = 9 ∨ i = 10 ∨ i = 11 ∨ i = 12 := by omega
          rcases hcase with h | h | h | h | h | h | h | h | h | h | h | h | h <;> subst h <;> have ho' := Option.some.inj hop <;> subst ho'
          · exact fa_trip (.tmp 11) 3 (by omega) rfl X (0) q11 (hn _ rfl)
          · exact vl_load 3 agg_int0 (.tmp 67) rfl _ _ (dv ⟨0, .data⟩ (by simp) rfl) kx.c3 (hn _ rfl)
          · exact fa_trip (.tmp 11) 2 (by omega) rfl X (0) q11 (hn _ rfl)
          · exact vl_load 3 agg_int0 (.tmp 69) rfl _ _ (dv ⟨2, .data⟩ (by simp) rfl) kx.c2 (hn _ rfl)
          · exact ld_truck (.tmp 15) t K (0) rfl q15 kt (hn _ rfl)
          · exact vl_move (.tmp 2) rfl _ q2 (hn _ rfl)
          · exact fa_move (.tmp 12) 1 (by omega) rfl M (0) q12 (hn _ rfl)
          · exact vl_load 3 agg_int0 (.tmp 73) rfl _ _ (dv ⟨6, .data⟩ (by simp) rfl) km.c1 (hn _ rfl)
          · exact fa_move (.tmp 12) 2 (by omega) rfl M (0) q12 (hn _ rfl)
          · exact vl_load 3 agg_int0 (.tmp 75) rfl _ _ (dv ⟨8, .data⟩ (by simp) rfl) km.c2 (hn _ rfl)
          · exact vl_call4 51 _ _ _ _ (.tmp 71) (.tmp 72) (.tmp 74) (.tmp 76) rfl enter_rHours _ _ _ _ (dv ⟨4, .data⟩ (by simp) rfl) (dv ⟨5, .data⟩ (by simp) rfl) (dv ⟨7, .data⟩ (by simp) rfl) (dv ⟨9, .data⟩ (by simp) rfl) ((rHours_any t _ d m.frm m.to _ (HD.out.keep hbw)).mono fun e w11 ⟨he, hb8⟩ => ⟨_, he, hK _ _ (ext_trans hb hb8) hb8 (congrArg (Value.int .i64) HHQ.out)⟩)
          · exact wp_add1 (.tmp 70) (.tmp 77) rfl _ _ (dv ⟨3, .data⟩ (by simp) rfl) (dv ⟨10, .data⟩ (by simp) rfl) (by omega) (hn _ rfl)
          · exact ne_ints (.tmp 68) (.tmp 78) rfl _ _ (dv ⟨1, .data⟩ (by simp) rfl) (dv ⟨11, .data⟩ (by simp) rfl) (hn _ rfl)
        · rintro a w10 hsm hb hv
          have vr : a.eval (.tmp 79) = .bool (x.fin != x.start + hq) := hv 12 (by decide)
          have hsm' : Sm [67, 68, 69, 70, 71, 72, 73, 74, 75, 76, 77, 78, 79] a0 a := hsm
          have HA := hsm'.lit
          simp only [List.foldl] at HA
          rw [vr] at HA
          generalize a.eval (.tmp 67) = t67 at HA
          generalize a.eval (.tmp 68) = t68 at HA
          generalize a.eval (.tmp 69) = t69 at HA
          generalize a.eval (.tmp 70) = t70 at HA
          generalize a.eval (.tmp 71) = t71 at HA
          generalize a.eval (.tmp 72) = t72 at HA
          generalize a.eval (.tmp 73) = t73 at HA
          generalize a.eval (.tmp 74) = t74 at HA
          generalize a.eval (.tmp 75) = t75 at HA
          generalize a.eval (.tmp 76) = t76 at HA
          generalize a.eval (.tmp 77) = t77 at HA
          generalize a.eval (.tmp 78) = t78 at HA
          rw [HA, ha0]
          simp only [Act.put, List.setIfInBounds_toArray, List.set_cons_zero, List.set_cons_succ]
          clear HA hsm hsm' hv vr ha0 z11 z15 z12 z2
          have HBF := Lib.hid (ext_trans HBC.out hb)
          by_cases hf : x.fin = x.start + hq
          · have HR : Hid (R = 0) := by show _ = _; rw [HO5.out, if_neg (by simpa using hf)]
            have hfb : (x.fin != x.start + hq) = false := by simpa using hf
            clear hf
            go_wp2_with fail
            go_ret
            exact ⟨ret_int HR.out.symm, HBF.out⟩
          · have HR : Hid (R = 17) := by show _ = _; rw [HO5.out, if_pos hf]
            have hfb : (x.fin != x.start + hq) = true := by simpa using hf
            clear hf
            go_wp2_with fail
            go_ret
            exact ⟨ret_int HR.out.symm, HBF.out⟩
end Go.Proofs.YtpbmmdoodmbneaaGreatDoor

/- Contract: Check and Last of the reference of transport. -/
namespace Go.Proofs.YtpbmmdoodmbneaaGreatDoor
open Go.RowKit Go.Sort

theorem ovB_at {ms : List Mov} {t : Trk} {d : List (List Int)} {r : List Trp} {p : Nat} (h : p + 1 < r.length) : ovB ms t d (some (((fndM ms (tpi r p).item).getD default).to, (tpi r p).fin)) (r.drop (p + 1)) =
    (decide ((tpi r (p + 1)).start < (tpi r p).fin + emptyV t d ((fndM ms (tpi r p).item).getD default).to ((fndM ms (tpi r (p + 1)).item).getD default).frm) || ovB ms t d (some (((fndM ms (tpi r (p + 1)).item).getD default).to, (tpi r (p + 1)).fin)) (r.drop (p + 2))) := by
  rw [List.drop_eq_getElem_cons h, ← tpi_lt h, ovB_cons]
  rfl
theorem ovB_start {ms : List Mov} {t : Trk} {d : List (List Int)} {r : List Trp} (h : 0 < r.length) : ovB ms t d none r = ovB ms t d (some (((fndM ms (tpi r 0).item).getD default).to, (tpi r 0).fin)) (r.drop 1) := by
  cases r with
  | nil => simp at h
  | cons x r => rw [ovB_cons]; rfl
theorem ownS_srt (l : List Trp) (t : Trk) : ownS l t = srtS (l.filter fun x => x.truck == t.name) := srtS_filter _ _
theorem ownS_mem {l : List Trp} {t : Trk} {x : Trp} (h : x ∈ srtS (l.filter fun x => x.truck == t.name)) : x ∈ l := (List.mem_filter.1 ((srtS_perm _).mem_iff.1 h)).1
def rc24d (i : Nat) : Nat := i + 92
def rc24V (y z : Trp) (t : Trk) (em : Int) (dv : Value) (g go rn rc b off tn kc p k M1 M2 pto mf : Nat) : Nat → Value
  | 0 => .slice (some ⟨g, go, none⟩) rn rc
  | 1 => .int .i64 (((p + 1 : Nat) : Int))
  | 2 => .pointer (some ⟨g, go + ((p + 1)) * 4, none⟩)
  | 3 => .pointer (some ⟨g, go + ((p + 1)) * 4 + 2, none⟩)
  | 4 => .int .i64 y.start
  | 5 => .slice (some ⟨g, go, none⟩) rn rc
  | 6 => .int .i64 (((p + 1 : Nat) : Int))
  | 7 => .int .i64 p
  | 8 => .pointer (some ⟨g, go + p * 4, none⟩)
  | 9 => .pointer (some ⟨g, go + p * 4 + 3, none⟩)
  | 10 => .int .i64 z.fin
  | 11 => .slice (some ⟨b, off, none⟩) tn kc
  | 12 => .int .i64 k
  | 13 => .pointer (some ⟨b, off + k * 3, none⟩)
  | 14 => .agg #[.string (bs t.name), .int .i64 t.load, .int .i64 t.hours]
  | 15 => dv
  | 16 => .pointer (some ⟨M1, 0 + 2, none⟩)
  | 17 => .int .i64 pto
  | 18 => .pointer (some ⟨M2, 0 + 1, none⟩)
  | 19 => .int .i64 mf
  | 20 => .int .i64 em
  | 21 => .int .i64 (z.fin + em)
  | _ => .bool (decide (y.start < z.fin + em))
set_option maxHeartbeats 8000000 in
set_option maxRecDepth 100000 in
theorem rCheck_any (mv v dv lv : Value) (ms : List Mov) (tr : List Trk) (d : List (List Int)) (l : List Trp) (w : World) (hm : SM w mv ms) (h : SK w v tr) (hd : SS w dv d) (hl : SX w lv l) (hz : ∀ t ∈ tr, t.name.length ≤ maxLen) (hzm : ∀ m ∈ ms, m.item.length ≤ 1100000) :
    Calls Tryz.prog 7 #[mv, v, dv, lv] w (Ret w (.int .i64 (chkTE ms tr d l))) := by
  have HCY := Lib.hid (rCheckYard_any v dv tr d w h hd hz)
  have HRM := Lib.hid (fun (W : World) (hb : Below w.heap.size w W) => rrightMoves_any mv dv ms d W (hm.keep hb) (hd.keep hb) hzm)
  have HON := Lib.hid (fun (W : World) (i : Nat) (hb : Below w.heap.size w W) (hi : i < l.length) (hok : inE ms tr d = 0) => rone_any mv v dv lv ms tr d l i W (hm.keep hb) (h.keep hb) (hd.keep hb) (hl.keep hb) hi hok)
  have HTR := Lib.hid (fun (W : World) (y : List UInt8) (hb : Below w.heap.size w W) (hn : l.length ≤ 100000) => rtrips_any lv l y W (hl.keep hb) hn)
  have HMO := Lib.hid (fun (W : World) (y : List UInt8) (hb : Below w.heap.size w W) => rmove_any mv ms y W (hm.keep hb))
  have HK := Lib.hid h
  have HD := Lib.hid hd
  obtain ⟨ma, mc, rfl, _, mm, _⟩ := hm
  obtain ⟨ka, kc, rfl, kn, km, _⟩ := h
  obtain ⟨da, dc, rfl, dn, dm, _⟩ := hd.open
  obtain ⟨xa, xc, rfl, xn, xm, _⟩ := hl
  unfold maxLen at km mm xm
  clear hd hz hzm
  have HC : Hid (chkTE ms tr d l = if inE ms tr d ≠ 0 then inE ms tr d else if l.length ≠ ms.length then 17 else if onesE ms tr d [] l ≠ 0 then onesE ms tr d [] l else if (tr.any fun t => ovB ms t d none (ownS l t)) = true then 19 else 0) := rfl
  have HOK : Hid (inE ms tr d = 0 → YardOK tr d ∧ MovesOK ms d.length) := fun h => inE_ok h
  have HIE : Hid (inE ms tr d = if yardE tr d ≠ 0 then yardE tr d else rmE ms d.length) := rfl
  generalize chkTE ms tr d l = R at *
  obtain ⟨y, hyy⟩ : ∃ y, inE ms tr d = y := ⟨_, rfl⟩
  rw [hyy] at HC HOK HIE HON
  clear hyy
  by_cases hy1 : yardE tr d = 0
  rotate_left
  · have HR : Hid (R = yardE tr d) := by show _ = _; rw [HC.out, HIE.out, if_pos hy1, if_pos hy1]
    have hyb : (yardE tr d != 0) = true := by simpa using hy1
    clear HC hy1 HOK HIE HON
    generalize yardE tr d = ye at *
    go_enter Tryz.func7, Tryz.ntmps7
    go_wp2_with fail
    refine HCY.out.mono ?_
    rintro e w1 ⟨rfl, hb1⟩
    go_wp2_with fail
    go_ret
    exact ⟨ret_int HR.out.symm, hb1⟩
  have HYR : Hid (y = rmE ms d.length) := by show _ = _; rw [HIE.out, if_neg (by simpa using hy1)]
  rw [hy1] at HCY
  rw [← HYR.out] at HRM
  clear HIE hy1 HYR
  go_enter Tryz.func7, Tryz.ntmps7
  go_wp2_with fail
  refine HCY.out.mono ?_
  rintro e w1 ⟨rfl, hb1⟩
  have HB1 := Lib.hid hb1
  clear hb1 HCY
  go_wp2_with fail
  refine (HRM.out _ HB1.out).mono ?_
  rintro e w2 ⟨rfl, hb2⟩
  have HB2 := Lib.hid (ext_trans HB1.out hb2)
  clear hb2 HRM HB1
  by_cases hy : y = 0
  rotate_left
  · have HR : Hid (R = y) := by show _ = _; rw [HC.out, if_pos hy]
    have hyb : (y != 0) = true := by simpa using hy
    clear HC hy HOK HON
    go_wp2_with fail
    go_ret
    exact ⟨ret_int HR.out.symm, HB2.out⟩
  subst hy
  obtain ⟨hY, hMO⟩ := HOK.out rfl
  have HYD := Lib.hid hY
  have HMK := Lib.hid hMO
  have hnms := hMO.ln
  have HC1 : Hid (R = if l.length ≠ ms.length then 17 else if onesE ms tr d [] l ≠ 0 then onesE ms tr d [] l else if (tr.any fun t => ovB ms t d none (ownS l t)) = true then 19 else 0) := HC.out
  clear HC HOK hY hMO
  by_cases hln : l.length = ms.length
  rotate_left
  · have HR : Hid (R = 17) := by show _ = _; rw [HC1.out, if_pos hln]
    have hyb : ((l.length : Int) != (ms.length : Int)) = true := by rw [bne_iff_ne]; omega
    clear HC1 hln HON
    go_wp2_with fail
    go_ret
    exact ⟨ret_int HR.out.symm, HB2.out⟩
  have hyb : ((l.length : Int) != (ms.length : Int)) = false := by rw [bne_eq_false_iff_eq]; omega
  have HC2 : Hid (R = if onesE ms tr d [] l ≠ 0 then onesE ms tr d [] l else if (tr.any fun t => ovB ms t d none (ownS l t)) = true then 19 else 0) := by show _ = _; rw [HC1.out, if_neg (by simpa using hln)]
  have hl128 : l.length ≤ 128 := by omega
  have HLN : Hid (l.length = ms.length) := hln
  clear HC1 hln hnms
  go_wp2_with fail
  go_loopw [11] (fun i wr => ∃ k : Nat, k ≤ l.length ∧ i = .int .i64 k ∧ Hid (Below w.heap.size w wr) ∧ Hid (onesE ms tr d [] l = onesE ms tr d (l.take k) (l.drop k))) (fun i _ => l.length - (intOf i).toNat)
  case atStart => exact ⟨0, Nat.zero_le _, rfl, HB2.out, rfl⟩
  case round =>
    obtain ⟨k, hk, rfl, hb, hE⟩ := hrel
    by_cases hlt : k < l.length
    · have i1 : (k : Int) < (l.length : Int) := by omega
      have HT := Lib.hid (onesE_at (ms := ms) (tr := tr) (d := d) hlt)
      have HO1 := Lib.hid (HON.out wr k hb.out hlt (by first | rfl | trivial))
      generalize oneE ms tr d (l.take k) (tpi l k) = er at *
      clear HB2
      go_wp2_with fail
      refine HO1.out.mono ?_
      rintro e w3 ⟨rfl, hb3⟩
      have HB3 := Lib.hid (ext_trans hb.out hb3)
      clear hb3 HO1
      by_cases her : er = 0
      · have HNX : Hid (onesE ms tr d [] l = onesE ms tr d (l.take (k + 1)) (l.drop (k + 1))) := by show _ = _; rw [hE.out, HT.out, if_neg (by simpa using her)]
        have e0 : (er != 0) = false := by simpa using her
        clear HT her hE
        go_wp2_with fail
        go_roundw
        case rel => exact ⟨k + 1, by omega, by go_num, HB3.out, HNX.out⟩
        case measure => simp [intOf]; omega
      · have HR : Hid (R = er) := by
          show _ = _
          have : onesE ms tr d [] l = er := by rw [hE.out, HT.out, if_pos her]
          rw [HC2.out, this, if_pos her]
        have e0 : (er != 0) = true := by simpa using her
        clear HT her hE
        go_wp2_with fail
        go_ret
        exact ⟨ret_int HR.out.symm, HB3.out⟩
    have i1 : ¬ (k : Int) < (l.length : Int) := by omega
    have hz0 : onesE ms tr d [] l = 0 := by rw [hE.out, onesE_end _ _ _ _ _ (by omega)]
    have HALL := Lib.hid (onesE_all HYD.out HMK.out l [] hz0)
    have HC3 : Hid (R = if (tr.any fun t => ovB ms t d none (ownS l t)) = true then 19 else 0) := by show _ = _; rw [HC2.out, if_neg (by simpa using hz0)]
    have HB5 := Lib.hid hb.out
    clear hE HC2 hz0 hb HON HB2
    obtain ⟨w5, rfl⟩ : ∃ z : World, z = wr := ⟨_, rfl⟩
    go_wp2_with fail
    clear i1 hlt hk
    go_loopw [13] (fun i wr => ∃ k : Nat, k ≤ tr.length ∧ i = .int .i64 k ∧ Hid (Below w.heap.size w wr) ∧ Hid (((tr.take k).any fun t => ovB ms t d none (ownS l t)) = false)) (fun i _ => tr.length - (intOf i).toNat)
    case atStart => exact ⟨0, Nat.zero_le _, rfl, HB5.out, rfl⟩
    case round =>
      clear HB5
      obtain ⟨k, hk, rfl, hb, hE⟩ := hrel
      by_cases hlt : k < tr.length
      · obtain ⟨b, off, rfl, hcw⟩ := HK.out.at hlt
        have HCW := Lib.hid hcw
        have n0 := (HCW.out.keep hb.out).c0
        have hrt := HYD.out.hr _ (tki_mem hlt)
        have HNX := Lib.hid (anyU_succ (fun t => ovB ms t d none (ownS l t)) tr hlt)
        have HAT : Hid (ovB ms (tki tr k) d none (ownS l (tki tr k)) = true → (tr.any fun t => ovB ms t d none (ownS l t)) = true) := fun h => any_at hlt h
        have HNX2 : Hid (((tr.take (k + 1)).any fun t => ovB ms t d none (ownS l t)) = (((tr.take k).any fun t => ovB ms t d none (ownS l t)) || ovB ms (tki tr k) d none (ownS l (tki tr k)))) := HNX.out
        obtain ⟨t, ht⟩ : ∃ t, tki tr k = t := ⟨_, rfl⟩
        rw [ht] at HCW n0 hrt HAT HNX2
        clear ht hcw HNX
        rw [ownS_srt] at HAT HNX2
        have i1 : (k : Int) < (tr.length : Int) := by omega
        have i2 : (k : Int) < (kc : Int) := by omega
        go_wp2_with fail
        refine (HTR.out _ t.name hb.out (by omega)).mono ?_
        rintro e w6 ⟨ov, rfl, hso, hb6⟩
        have HB6 := Lib.hid (ext_trans hb.out hb6)
        have HMEM := Lib.hid (fun (x : Trp) (hx : x ∈ srtS (l.filter fun x => x.truck == t.name)) => HALL.out x (ownS_mem hx))
        obtain ⟨r, hr⟩ : ∃ r, srtS (l.filter fun x => x.truck == t.name) = r := ⟨_, rfl⟩
        rw [hr] at hso HMEM HAT HNX2
        clear hr hb6 n0
        have HSO := Lib.hid hso
        obtain ⟨oa, rc, rfl, hrc, hrm, _⟩ := hso
        unfold maxLen at hrm
        go_wp2_with fail
        go_loopw [15] (fun i w7 => ∃ q : Nat, 1 ≤ q ∧ (q ≤ r.length ∨ q = 1) ∧ i = .int .i64 q ∧ Hid (Below w6.heap.size w6 w7) ∧ Hid (0 < r.length → ovB ms t d none r = ovB ms t d (some (((fndM ms (tpi r (q - 1)).item).getD default).to, (tpi r (q - 1)).fin)) (r.drop q))) (fun i _ => r.length - (intOf i).toNat)
        case atStart => exact ⟨1, Nat.le_refl _, .inr rfl, rfl, Below.refl _ _, fun h => ovB_start h⟩
        case round =>
          obtain ⟨w7, rfl⟩ : ∃ z : World, z = wr := ⟨_, rfl⟩
          obtain ⟨q, hq1, hq2, rfl, hb7, hO⟩ := hrel
          have HB7 := Lib.hid (ext_trans HB6.out hb7.out)
          by_cases hpr : q < r.length
          · obtain ⟨p, rfl⟩ : ∃ p, q = p + 1 := ⟨q - 1, by omega⟩
            have HO2 : Hid (ovB ms t d none r = (decide ((tpi r (p + 1)).start < (tpi r p).fin + emptyV t d ((fndM ms (tpi r p).item).getD default).to ((fndM ms (tpi r (p + 1)).item).getD default).frm) || ovB ms t d (some (((fndM ms (tpi r (p + 1)).item).getD default).to, (tpi r (p + 1)).fin)) (r.drop (p + 2)))) := by
              show _ = _
              rw [hO.out (by omega), ← ovB_at hpr]; rfl
            obtain ⟨g, go, hoa, hyw⟩ := (HSO.out.keep hb7.out).at (i := p + 1) hpr
            subst hoa
            obtain ⟨g', go', hoa, hzw⟩ := (HSO.out.keep hb7.out).at (i := p) (by omega)
            simp only [Option.some.injEq, Addr.mk.injEq] at hoa
            obtain ⟨rfl, rfl, _⟩ := hoa
            have hty := HMEM.out _ (tpi_mem hpr)
            have htz := HMEM.out _ (tpi_mem (show p < r.length by omega))
            obtain ⟨m2, hm2⟩ := hty.mv
            obtain ⟨m1, hm1⟩ := htz.mv
            rw [hm1, hm2] at HO2
            dsimp only [Option.getD_some] at HO2
            have HLAST : Hid (ovB ms t d (some (((fndM ms (tpi r (p + 1)).item).getD default).to, (tpi r (p + 1)).fin)) (r.drop (p + 2)) = ovB ms t d (some (m2.to, (tpi r (p + 1)).fin)) (r.drop (p + 2))) := by show _ = _; rw [hm2]; rfl
            have hr1 := HMK.out.rg m1 (fndM_some hm1).1
            have hr2 := HMK.out.rg m2 (fndM_some hm2).1
            have HF1 := Lib.hid hm1
            have HF2 := Lib.hid hm2
            have HYW := Lib.hid hyw
            have HZW := Lib.hid hzw
            obtain ⟨y, hy⟩ : ∃ y, tpi r (p + 1) = y := ⟨_, rfl⟩
            obtain ⟨z, hz⟩ : ∃ z, tpi r p = z := ⟨_, rfl⟩
            rw [hy] at HO2 hty HF2 HYW HLAST
            rw [hz] at HO2 htz HF1 HZW
            have HYR := Lib.hid hy
            have hzf := htz.f0
            have hzf1 := htz.f1
            clear hy hz hyw hzw hm1 hm2 hO
            obtain ⟨pto, hpto⟩ : ∃ q : Nat, m1.to = q := ⟨m1.to.toNat, by omega⟩
            obtain ⟨mf, hmf⟩ : ∃ q : Nat, m2.frm = q := ⟨m2.frm.toNat, by omega⟩
            have hhr : 1 ≤ t.hours ∧ t.hours ≤ 100 := by omega
            have hpd : pto < d.length := by omega
            have hmd : mf < (ri d pto).length := by rw [HYD.out.sq _ (ri_mem hpd)]; omega
            have hdr := HYD.out.dist pto mf
            obtain ⟨em, hem⟩ : ∃ em, emptyV t d pto mf = em := ⟨_, rfl⟩
            have hme : em ≤ 500001 ∧ 0 ≤ em := by
              rw [← hem]
              unfold emptyV
              rw [Int.toNat_natCast, Int.toNat_natCast]
              generalize gi (ri d pto) mf = z at *
              have h4 : t.hours * z ≤ 100 * 10000 := Int.mul_le_mul hhr.2 hdr.2 hdr.1 (by omega)
              have h5 : 0 ≤ t.hours * z := Int.mul_nonneg (by omega) hdr.1
              omega
            have HO3 : Hid (ovB ms t d none r = (decide (y.start < z.fin + em) || ovB ms t d (some (((fndM ms y.item).getD default).to, y.fin)) (r.drop (p + 2)))) := by
              show _ = _; rw [HLAST.out, HO2.out]; simp only [hpto, hmf, hem]
            have HEM := Lib.hid hem
            have HPT := Lib.hid hpto
            have HMFF := Lib.hid hmf
            clear hem HO2 HLAST hpto hmf
            have z0 := HZW.out.c0
            have j1 : ((p + 1 : Nat) : Int) < (r.length : Int) := by omega
            have j2 : ((p + 1 : Nat) : Int) < (rc : Int) := by omega
            have j3 : (p : Int) < (r.length : Int) := by omega
            have j4 : (p : Int) < (rc : Int) := by omega
            have hw3 : IntKind.i64.wrap (((p + 1 : Nat) : Int) - 1) = (p : Int) := by rw [show (((p + 1 : Nat) : Int) - 1) = (p : Int) by omega]; exact IntWalk.i64_in _ (by omega)
            have hw4 : IntKind.i64.wrap ((p : Int) + 1 - 1) = (p : Int) := by rw [show ((p : Int) + 1 - 1) = (p : Int) by omega]; exact IntWalk.i64_in _ (by omega)
            go_wp2_with fail
            refine (HMO.out _ z.item HB7.out).mono ?_
            rintro e w8 ⟨rfl, hb8⟩
            rw [HF1.out, show moV (some m1) = .tuple #[.agg #[.string (bs m1.item), .int .i64 m1.frm, .int .i64 m1.to, .int .i64 m1.ready, .int .i64 m1.mass], .bool true] from rfl]
            have HB8 := Lib.hid (ext_trans HB7.out hb8)
            obtain ⟨w9, hw9⟩ : ∃ w9, w9 = w8.alloc (.cells #[.string (bs m1.item), .int .i64 m1.frm, .int .i64 m1.to, .int .i64 m1.ready, .int .i64 m1.mass] 39) := ⟨_, rfl⟩
            have hb89 : Below w8.heap.size w8 w9 := by rw [hw9]; exact (Below.refl _ _).alloc (Nat.le_refl _) _
            have HM1 : Hid (MAt w9 w8.heap.size 0 m1) := by show MAt _ _ _ _; rw [hw9]; exact ⟨by simp, by simp, by simp, by simp, by simp⟩
            obtain ⟨M1, hM1⟩ : ∃ M, M = w8.heap.size := ⟨_, rfl⟩
            have HB9 := Lib.hid (ext_trans HB8.out hb89)
            have HY9 := Lib.hid ((HYW.out.keep hb8).keep hb89)
            have HZ9 := Lib.hid ((HZW.out.keep hb8).keep hb89)
            have HB79 := Lib.hid (ext_trans hb8 hb89)
            clear hb8 hb89 z0 HB8
            have y0 := HY9.out.c0
            go_upto_region 23 with (fail)
            rw [← hw9, ← hM1]
            rw [← hM1] at HM1
            clear hw9 hM1
            go_wp2_with fail
            refine (HMO.out _ y.item HB9.out).mono ?_
            rintro e w10 ⟨rfl, hb10⟩
            rw [HF2.out, show moV (some m2) = .tuple #[.agg #[.string (bs m2.item), .int .i64 m2.frm, .int .i64 m2.to, .int .i64 m2.ready, .int .i64 m2.mass], .bool true] from rfl]
            obtain ⟨wD, hwD⟩ : ∃ wD, wD = w10.alloc (.cells #[.string (bs m2.item), .int .i64 m2.frm, .int .i64 m2.to, .int .i64 m2.ready, .int .i64 m2.mass] 39) := ⟨_, rfl⟩
            have hbD : Below w10.heap.size w10 wD := by rw [hwD]; exact (Below.refl _ _).alloc (Nat.le_refl _) _
            have HM2 : Hid (MAt wD w10.heap.size 0 m2) := by show MAt _ _ _ _; rw [hwD]; exact ⟨by simp, by simp, by simp, by simp, by simp⟩
            obtain ⟨M2, hM2⟩ : ∃ M, M = w10.heap.size := ⟨_, rfl⟩
            have HB9D := Lib.hid (ext_trans hb10 hbD)
            have HBD := Lib.hid (ext_trans HB9.out HB9D.out)
            have HYD2 := Lib.hid (HY9.out.keep HB9D.out)
            have HZD := Lib.hid (HZ9.out.keep HB9D.out)
            have HTD : Hid (KAt wD b (off + k * 3) t) := HCW.out.keep HBD.out
            have kq1 : wD.cell? ⟨M1, 2, none⟩ = some (.int .i64 pto) := by rw [← HPT.out]; exact cell_keep HB9D.out HM1.out.c2
            have HB7D := Lib.hid (ext_trans HB79.out HB9D.out)
            clear hb10 hbD y0
            go_upto_region 24 with (fail)
            rw [← hwD, ← hM2]
            rw [← hM2] at HM2
            have kq2 : wD.cell? ⟨M2, 1, none⟩ = some (.int .i64 mf) := by rw [← HMFF.out]; exact HM2.out.c1
            clear hwD hM2 HY9 HZ9 HB79 HM1 HM2 HYW HZW
            have HYD' := Lib.hid HYD.out
            have HYD := HYD2
            clear HYD2
            go_wp2_with fail
            refine wp_name fun a0 ha0 => ?_
            have z14 : a0.eval (.tmp 14) = .slice (some ⟨g, go, none⟩) r.length rc := by rw [ha0]; rfl
            have z15 : a0.eval (.tmp 15) = .int .i64 ((p + 1 : Nat) : Int) := by rw [ha0]; rfl
            have z1 : a0.eval (.tmp 1) = .slice (some ⟨b, off, none⟩) tr.length kc := by rw [ha0]; rfl
            have z13 : a0.eval (.tmp 13) = .int .i64 k := by rw [ha0]; rfl
            have z2 : a0.eval (.tmp 2) = .slice da d.length dc := by rw [ha0]; rfl
            have z16 : a0.eval (.tmp 16) = .pointer (some ⟨M1, 0, none⟩) := by rw [ha0]; rfl
            have z18 : a0.eval (.tmp 18) = .pointer (some ⟨M2, 0, none⟩) := by rw [ha0]; rfl
            refine wp_region_ipf rc24d (fun i v _ => v = (rc24V y z t em (.slice da d.length dc) g go r.length rc b off tr.length kc p k M1 M2 pto mf i)) (fun w' => Below wD.heap.size wD w') mixed (by kernel_rfl) (by rw [ha0]; rfl) (by kernel_rfl) (Below.refl _ _).drew (fun i v w w' h _ => h) ?_ ?_
            · rintro i op a w10 hop hdep hsm hb hfr K0 hK
              have hi : i < 23 := (Array.getElem?_eq_some_iff.1 hop).1
              have q14 := (hsm.eval (m := 14) (by decide)).trans z14
              have q15 := (hsm.eval (m := 15) (by decide)).trans z15
              have q1 := (hsm.eval (m := 1) (by decide)).trans z1
              have q13 := (hsm.eval (m := 13) (by decide)).trans z13
              have q2 := (hsm.eval (m := 2) (by decide)).trans z2
              have q16 := (hsm.eval (m := 16) (by decide)).trans z16
              have q18 := (hsm.eval (m := 18) (by decide)).trans z18
              have ky := HYD.out.keep hb
              have kz := HZD.out.keep hb
              have kt := HTD.out.keep hb
              have kp1 := cell_keep hb kq1
              have kp2 := cell_keep hb kq2
              have hbw : Below w.heap.size w w10 := ext_trans HBD.out hb
              have dv : ∀ e ∈ op.after, Region.binds .any e = true → a.eval (.tmp (rc24d e.on)) = (rc24V y z t em (.slice da d.length dc) g go r.length rc b off tr.length kc p k M1 M2 pto mf e.on) := fun e he hbi => hdep e he hbi
              have hn : ∀ v, v = (rc24V y z t em (.slice da d.length dc) g go r.length rc b off tr.length kc p k M1 M2 pto mf i) → K0 (a.put op.dst v) w10 := fun v hv => hK _ _ hb (Below.refl _ _) hv
              have hcase : i = 0 ∨ i = 1 ∨ i = 2 ∨ i = 3 ∨ i = 4 ∨ i = 5 ∨ i = 6 ∨ i = 7 ∨ i = 8 ∨ i = 9 ∨ i = 10 ∨ i = 11 ∨ i = 12 ∨ i = 13 ∨ i = 14 ∨ i = 15 ∨ i = 16 ∨ i = 17 ∨ i = 18 ∨ i = 19 ∨ i = 20 ∨ i = 21 ∨ i = 22 := by omega
              rcases hcase with h | h | h | h | h | h | h | h | h | h | h | h | h | h | h | h | h | h | h | h | h | h | h <;> subst h <;> have ho' := Option.some.inj hop <;> subst ho'
              · exact vl_move (.tmp 14) rfl _ q14 (hn _ rfl)
              · exact vl_move (.tmp 15) rfl _ q15 (hn _ rfl)
              · exact ix_trips (.tmp 92) (.tmp 93) g (go) r.length rc ((p + 1)) rfl (dv ⟨0, .data⟩ (by simp) rfl) (dv ⟨1, .data⟩ (by simp) rfl) hpr hrc (hn _ rfl)
              · exact fa_trip (.tmp 94) 2 (by omega) rfl g (go + ((p + 1)) * 4) (dv ⟨2, .data⟩ (by simp) rfl) (hn _ rfl)
              · exact vl_load 3 agg_int0 (.tmp 95) rfl _ _ (dv ⟨3, .data⟩ (by simp) rfl) ky.c2 (hn _ rfl)
              · exact vl_move (.tmp 14) rfl _ q14 (hn _ rfl)
              · exact vl_move (.tmp 15) rfl _ q15 (hn _ rfl)
              · exact wp_sub1 (.tmp 98) _ rfl ((p + 1 : Nat) : Int) 1 (dv ⟨6, .data⟩ (by simp) rfl) rfl (by omega) (by rw [show (((p + 1 : Nat) : Int) - 1) = (p : Int) by omega]; exact hn _ rfl)
              · exact ix_trips (.tmp 97) (.tmp 99) g (go) r.length rc p rfl (dv ⟨5, .data⟩ (by simp) rfl) (dv ⟨7, .data⟩ (by simp) rfl) (by omega) hrc (hn _ rfl)
              · exact fa_trip (.tmp 100) 3 (by omega) rfl g (go + p * 4) (dv ⟨8, .data⟩ (by simp) rfl) (hn _ rfl)
              · exact vl_load 3 agg_int0 (.tmp 101) rfl _ _ (dv ⟨9, .data⟩ (by simp) rfl) kz.c3 (hn _ rfl)
              · exact vl_move (.tmp 1) rfl _ q1 (hn _ rfl)
              · exact vl_move (.tmp 13) rfl _ q13 (hn _ rfl)
              · exact ix_trucks (.tmp 103) (.tmp 104) b (off) tr.length kc k rfl (dv ⟨11, .data⟩ (by simp) rfl) (dv ⟨12, .data⟩ (by simp) rfl) hlt kn (hn _ rfl)
              · exact ld_truck (.tmp 105) t b (off + k * 3) rfl (dv ⟨13, .data⟩ (by simp) rfl) kt (hn _ rfl)
              · exact vl_move (.tmp 2) rfl _ q2 (hn _ rfl)
              · exact fa_move (.tmp 16) 2 (by omega) rfl M1 (0) q16 (hn _ rfl)
              · exact vl_load 3 agg_int0 (.tmp 108) rfl _ _ (dv ⟨16, .data⟩ (by simp) rfl) kp1 (hn _ rfl)
              · exact fa_move (.tmp 18) 1 (by omega) rfl M2 (0) q18 (hn _ rfl)
              · exact vl_load 3 agg_int0 (.tmp 110) rfl _ _ (dv ⟨18, .data⟩ (by simp) rfl) kp2 (hn _ rfl)
              · exact vl_call4 28 _ _ _ _ (.tmp 106) (.tmp 107) (.tmp 109) (.tmp 111) rfl enter_rempty _ _ _ _ (dv ⟨14, .data⟩ (by simp) rfl) (dv ⟨15, .data⟩ (by simp) rfl) (dv ⟨17, .data⟩ (by simp) rfl) (dv ⟨19, .data⟩ (by simp) rfl) ((rempty_any t _ d pto mf _ (HD.out.keep hbw) hhr hpd hmd hdr).mono fun e w11 ⟨he, hb8⟩ => ⟨_, he, hK _ _ (ext_trans hb hb8) hb8 (congrArg (Value.int .i64) HEM.out)⟩)
              · exact wp_add1 (.tmp 102) (.tmp 112) rfl _ _ (dv ⟨10, .data⟩ (by simp) rfl) (dv ⟨20, .data⟩ (by simp) rfl) (by omega) (hn _ rfl)
              · exact lt_ints (.tmp 96) (.tmp 113) rfl _ _ (dv ⟨4, .data⟩ (by simp) rfl) (dv ⟨21, .data⟩ (by simp) rfl) (hn _ rfl)
            · rintro a w10 hsm hb hv
              have vr : a.eval (.tmp 114) = .bool (decide (y.start < z.fin + em)) := hv 22 (by decide)
              have hsm' : Sm [92, 93, 94, 95, 96, 97, 98, 99, 100, 101, 102, 103, 104, 105, 106, 107, 108, 109, 110, 111, 112, 113, 114] a0 a := hsm
              have HA := hsm'.lit
              simp only [List.foldl] at HA
              rw [vr] at HA
              generalize a.eval (.tmp 92) = t92 at HA
              generalize a.eval (.tmp 93) = t93 at HA
              generalize a.eval (.tmp 94) = t94 at HA
              generalize a.eval (.tmp 95) = t95 at HA
              generalize a.eval (.tmp 96) = t96 at HA
              generalize a.eval (.tmp 97) = t97 at HA
              generalize a.eval (.tmp 98) = t98 at HA
              generalize a.eval (.tmp 99) = t99 at HA
              generalize a.eval (.tmp 100) = t100 at HA
              generalize a.eval (.tmp 101) = t101 at HA
              generalize a.eval (.tmp 102) = t102 at HA
              generalize a.eval (.tmp 103) = t103 at HA
              generalize a.eval (.tmp 104) = t104 at HA
              generalize a.eval (.tmp 105) = t105 at HA
              generalize a.eval (.tmp 106) = t106 at HA
              generalize a.eval (.tmp 107) = t107 at HA
              generalize a.eval (.tmp 108) = t108 at HA
              generalize a.eval (.tmp 109) = t109 at HA
              generalize a.eval (.tmp 110) = t110 at HA
              generalize a.eval (.tmp 111) = t111 at HA
              generalize a.eval (.tmp 112) = t112 at HA
              generalize a.eval (.tmp 113) = t113 at HA
              rw [HA, ha0]
              simp only [Act.put, List.setIfInBounds_toArray, List.set_cons_zero, List.set_cons_succ]
              clear HA hsm hsm' hv vr ha0 z14 z15 z1 z13 z2 z16 z18
              have HBF := Lib.hid (ext_trans HB7D.out hb)
              by_cases hov : y.start < z.fin + em
              · have HR : Hid (R = 19) := by
                  show _ = _
                  have h1 : ovB ms t d none r = true := by rw [HO3.out, decide_eq_true hov]; rfl
                  rw [HC3.out, if_pos (HAT.out h1)]
                have hd1 : decide (y.start < z.fin + em) = true := by rw [decide_eq_true_eq]; exact hov
                rw [hd1]
                clear hov hd1
                go_wp2_with fail
                go_ret
                exact ⟨ret_int HR.out.symm, ext_trans HB7.out HBF.out⟩
              · have hd1 : decide (y.start < z.fin + em) = false := by rw [decide_eq_false_iff_not]; exact hov
                have HNX3 : Hid (0 < r.length → ovB ms t d none r = ovB ms t d (some (((fndM ms (tpi r (p + 1 + 1 - 1)).item).getD default).to, (tpi r (p + 1 + 1 - 1)).fin)) (r.drop (p + 1 + 1))) := fun _ => by
                  rw [show p + 1 + 1 - 1 = p + 1 by omega, HYR.out, HO3.out, hd1]; rfl
                rw [hd1]
                clear hov hd1
                go_wp2_with fail
                go_roundw
                case rel => exact ⟨p + 1 + 1, by omega, by omega, by go_num, ext_trans hb7.out HBF.out, HNX3.out⟩
                case measure => simp [intOf]; omega
          · have hno : ovB ms t d none r = false := by
              rcases Nat.eq_zero_or_pos r.length with h0 | h0
              · have : r = [] := List.length_eq_zero_iff.1 h0
                rw [this]; rfl
              · rw [hO.out h0, List.drop_eq_nil_of_le (by omega)]; rfl
            have HN : Hid (((tr.take (k + 1)).any fun t => ovB ms t d none (ownS l t)) = false) := by show _ = _; rw [HNX2.out, hE.out, hno]; rfl
            have j1 : ¬ (q : Int) < (r.length : Int) := by omega
            clear hno hO HAT HNX2
            go_wp2_with fail
            go_roundw
            case rel => exact ⟨k + 1, by omega, by go_num, HB7.out, HN.out⟩
            case measure => simp [intOf]; omega
      · have HR : Hid (R = 0) := by
          show _ = _
          have hE' := hE.out
          rw [List.take_of_length_le (by omega)] at hE'
          rw [HC3.out, hE', if_neg (by decide)]
        have i1 : ¬ (k : Int) < (tr.length : Int) := by omega
        clear hE HC3
        go_wp2_with fail
        go_ret
        exact ⟨ret_int HR.out.symm, hb.out⟩

set_option maxHeartbeats 2000000 in
theorem rLast_any (v : Value) (l : List Trp) (w : World) (h : SX w v l) : Calls Tryz.prog 9 #[v] w (Ret w (.int .i64 (lastV l))) := by
  obtain ⟨a, cap, rfl, h1, h2, h3⟩ := h
  have hm : l.length ≤ 9223372036854775807 := by unfold maxLen at h2; omega
  have H3 := Lib.hid h3
  clear h3
  by_cases h0 : l.length = 0
  · have hl : l = [] := List.length_eq_zero_iff.1 h0
    have b1 : ((l.length : Int) == 0) = true := by rw [beq_iff_eq]; omega
    have HR : Hid (lastV l = 0) := by show _ = _; rw [hl]; rfl
    clear hl h0
    go_enter Tryz.func9, Tryz.ntmps9
    go_wp2_with fail
    go_ret
    exact ⟨ret_int HR.out.symm, Below.refl _ _⟩
  have b1 : ((l.length : Int) == 0) = false := by rw [beq_eq_false_iff_ne]; omega
  obtain ⟨b, off, rfl, hc⟩ := H3.out 0 (by omega)
  have c3 := hc.c3
  rw [Nat.zero_mul, Nat.add_zero] at c3
  have i0 : (0 : Int) < (l.length : Int) := by omega
  have i00 : (0 : Int) < (cap : Int) := by omega
  have HM1 := Lib.hid (mxE_one (l := l) (by omega))
  clear hc
  go_enter Tryz.func9, Tryz.ntmps9
  go_wp2_with fail
  go_loopw [3, 4] (fun m i wr => ∃ k : Nat, k ≤ l.length ∧ i = .int .i64 k ∧ wr = w ∧ m = .int .i64 (mxE l (max k 1))) (fun _ i _ => l.length - (intOf i).toNat)
  case atStart => exact ⟨0, Nat.zero_le _, rfl, rfl, by rw [show max 0 1 = 1 from rfl, HM1.out]⟩
  case round =>
    obtain ⟨k, hk, rfl, rfl, rfl⟩ := hrel
    by_cases hlt : k < l.length
    · obtain ⟨b', off', e, hcx⟩ := H3.out k hlt
      simp only [Option.some.injEq, Addr.mk.injEq] at e
      obtain ⟨rfl, rfl, _⟩ := e
      have x3 := hcx.c3
      have i1 : (k : Int) < (l.length : Int) := by omega
      have i2 : (k : Int) < (cap : Int) := by omega
      have HNX : Hid (mxE l (max (k + 1) 1) = max (mxE l (max k 1)) (tpi l k).fin) := by
        show _ = _
        rcases Nat.eq_zero_or_pos k with rfl | hp
        · rw [show max (0 + 1) 1 = 1 from rfl, show max 0 1 = 1 from rfl, HM1.out, Int.max_self]
        · rw [show max (k + 1) 1 = k + 1 by omega, show max k 1 = k by omega, mxE_succ hp hlt]
      generalize tpi l k = x at *
      clear hcx c3
      generalize mxE l (max k 1) = mm at *
      go_wp2_with fail
      go_roundw
      case rel => exact ⟨k + 1, by omega, by go_num, (by first | rfl | trivial), by rw [HNX.out]⟩
      case measure => simp [intOf]; omega
    · have HR : Hid (lastV l = mxE l (max k 1)) := by show _ = _; rw [show max k 1 = l.length by omega, mxE_all]
      have i1 : ¬ (k : Int) < (l.length : Int) := by omega
      go_wp2_with fail
      go_ret
      exact ⟨ret_int HR.out.symm, Below.refl _ _⟩
end Go.Proofs.YtpbmmdoodmbneaaGreatDoor

/- The law TransportChecks. -/
namespace Go.Proofs.YtpbmmdoodmbneaaGreatDoor
open Go.RowKit

theorem enter_Check : ∀ args w, (callFunc 6 args).run Tryz.prog w = .ok (.enter 6 args) w := enters_of Tryz.func6 (by kernel_rfl) rfl
theorem enter_rCheck : ∀ args w, (callFunc 7 args).run Tryz.prog w = .ok (.enter 7 args) w := enters_of Tryz.func7 (by kernel_rfl) rfl
theorem enter_Last : ∀ args w, (callFunc 8 args).run Tryz.prog w = .ok (.enter 8 args) w := enters_of Tryz.func8 (by kernel_rfl) rfl
theorem enter_rLast : ∀ args w, (callFunc 9 args).run Tryz.prog w = .ok (.enter 9 args) w := enters_of Tryz.func9 (by kernel_rfl) rfl
theorem enter_awake : ∀ args w, (callFunc 5 args).run Tryz.prog w = .ok (.enter 5 args) w := enters_of Tryz.func5 (by kernel_rfl) rfl
def lw3d (i : Nat) : Nat := if i = 27 then 4 else i + 14
def lw3V (v dv mv lv : Value) (N : Nat) (E La : Int) : Nat → Value
  | 0 => .pointer (some ⟨N, 0 + 2, none⟩)
  | 1 => mv
  | 2 => .pointer (some ⟨N, 0 + 0, none⟩)
  | 3 => v
  | 4 => .pointer (some ⟨N, 0 + 1, none⟩)
  | 5 => dv
  | 6 => lv
  | 7 => .int .i64 E
  | 8 => .pointer (some ⟨N, 0 + 2, none⟩)
  | 9 => mv
  | 10 => .pointer (some ⟨N, 0 + 0, none⟩)
  | 11 => v
  | 12 => .pointer (some ⟨N, 0 + 1, none⟩)
  | 13 => dv
  | 14 => lv
  | 15 => .int .i64 E
  | 16 => .bool true
  | 17 => .bool true
  | 18 => lv
  | 19 => .int .i64 La
  | 20 => lv
  | 21 => .int .i64 La
  | 22 => .bool true
  | 23 => .bool true
  | 24 => .bool true
  | 25 => .bool true
  | 26 => .bool true
  | _ => .bool true
set_option maxHeartbeats 4000000 in
set_option maxRecDepth 100000 in
theorem Checks_any (v dv mv lv : Value) (ms : List Mov) (tr : List Trk) (d : List (List Int)) (l : List Trp) (w : World) (hm : SM w mv ms) (hk : SK w v tr) (hd : SS w dv d) (hl : SX w lv l) (hz : ∀ t ∈ tr, t.name.length ≤ maxLen) (hzm : ∀ m ∈ ms, m.item.length ≤ maxLen) (hM : MLen w) (hu : ∀ m ∈ ms, m.item.length ≤ 1100000) :
    Calls Tryz.prog 3 #[.agg #[v, dv, mv], lv] w (Ret w (.bool true)) := by
  have HL := Lib.hid (LT.of hm hk hd hz hzm hM)
  have HX := Lib.hid hl
  have HRC := Lib.hid (fun (W : World) (hb : Below w.heap.size w W) => rCheck_any mv v dv lv ms tr d l W (hm.keep hb) (hk.keep hb) (hd.keep hb) (hl.keep hb) hz hu)
  obtain ⟨ma, mc, rfl, mn, mm, _⟩ := hm
  obtain ⟨ka, kc, rfl, _⟩ := hk
  obtain ⟨da, dc, rfl, _⟩ := hd.open
  obtain ⟨xa, xc, rfl, xn, xm, _⟩ := hl
  clear hd hz hzm hM mn mm hu
  unfold maxLen at xm
  have HB0 := Lib.hid (Yb.start w (.slice ka tr.length kc) (.slice da d.length dc) (.slice ma ms.length mc) 26)
  have q0 := HB0.out.q0
  have q1 := HB0.out.q1
  have q2 := HB0.out.q2
  go_enter Tryz.func3, Tryz.ntmps3
  go_wp2_with fail
  refine (HL.out.lt 140 (by omega) _ HB0.out.hb).mono ?_
  rintro e w1 ⟨rfl, hb⟩
  have HB1 := Lib.hid (HB0.out.keep hb)
  clear hb q0 q1 q2
  cases hE : lightB tr d && decide (ms.length ≤ 140)
  · go_wp2_with fail
    refine (HL.out.aw _ HB1.out.hb).mono ?_
    rintro e w2 ⟨rfl, hb⟩
    have HB2 := Lib.hid (HB1.out.keep hb)
    clear hb
    go_wp2_with fail
    go_ret
    exact ⟨rfl, HB2.out.hb⟩
  by_cases hl60 : 140 < l.length
  · have i1 : decide ((140 : Int) < l.length) = true := by rw [decide_eq_true_eq]; omega
    go_wp2_with fail
    refine (HL.out.aw _ HB1.out.hb).mono ?_
    rintro e w2 ⟨rfl, hb⟩
    have HB2 := Lib.hid (HB1.out.keep hb)
    clear hb
    go_wp2_with fail
    go_ret
    exact ⟨rfl, HB2.out.hb⟩
  have i1 : decide ((140 : Int) < l.length) = false := by rw [decide_eq_false_iff_not]; omega
  have q0 := HB1.out.q0
  have q1 := HB1.out.q1
  have q2 := HB1.out.q2
  have HLS := Lib.hid (fun (W : World) (h : SX W (.slice xa l.length xc) l) => Last_any _ l W h)
  have HRL := Lib.hid (fun (W : World) (h : SX W (.slice xa l.length xc) l) => rLast_any _ l W h)
  have HCK := Lib.hid (fun (W : World) (h1 : Below w.heap.size w W) (h2 : SX W (.slice xa l.length xc) l) => HL.out.ck l _ W h1 h2)
  generalize chkTE ms tr d l = E at *
  generalize lastV l = La at *
  go_wp2_with fail
  refine wp_name fun a0 ha0 => ?_
  have z2 : a0.eval (.tmp 2) = .pointer (some ⟨w.heap.size, 0, none⟩) := by rw [ha0]; rfl
  have z1 : a0.eval (.tmp 1) = .slice xa l.length xc := by rw [ha0]; rfl
  refine wp_region_ipg lw3d (fun i v _ => v = (lw3V (.slice ka tr.length kc) (.slice da d.length dc) (.slice ma ms.length mc) (.slice xa l.length xc) w.heap.size E La i)) (fun w' => Below w1.heap.size w1 w') mixed (by kernel_rfl) (by rw [ha0]; rfl) (by kernel_rfl) (Below.refl _ _).drew (fun i v w w' h _ => h) ?_ ?_ ?_
  · rintro i op j b v w hop hg rfl
    have hi : i < 28 := (Array.getElem?_eq_some_iff.1 hop).1
    have hcase : i = 0 ∨ i = 1 ∨ i = 2 ∨ i = 3 ∨ i = 4 ∨ i = 5 ∨ i = 6 ∨ i = 7 ∨ i = 8 ∨ i = 9 ∨ i = 10 ∨ i = 11 ∨ i = 12 ∨ i = 13 ∨ i = 14 ∨ i = 15 ∨ i = 16 ∨ i = 17 ∨ i = 18 ∨ i = 19 ∨ i = 20 ∨ i = 21 ∨ i = 22 ∨ i = 23 ∨ i = 24 ∨ i = 25 ∨ i = 26 ∨ i = 27 := by omega
    rcases hcase with h | h | h | h | h | h | h | h | h | h | h | h | h | h | h | h | h | h | h | h | h | h | h | h | h | h | h | h <;> subst h <;> have ho' := Option.some.inj hop <;> subst ho' <;> first | (cases hg; done) | (cases hg; rfl)
  · rintro i op a w10 hop hdep hsm hb K0 hK
    have hi : i < 28 := (Array.getElem?_eq_some_iff.1 hop).1
    have q2 := (hsm.eval (m := 2) (by decide)).trans z2
    have q1 := (hsm.eval (m := 1) (by decide)).trans z1
    have kB := HB1.out.keep hb
    have dv : ∀ e ∈ op.after, Region.binds .any e = true → a.eval (.tmp (lw3d e.on)) = (lw3V (.slice ka tr.length kc) (.slice da d.length dc) (.slice ma ms.length mc) (.slice xa l.length xc) w.heap.size E La e.on) := fun e he hbi => hdep e he hbi
    have hn : ∀ v, v = (lw3V (.slice ka tr.length kc) (.slice da d.length dc) (.slice ma ms.length mc) (.slice xa l.length xc) w.heap.size E La i) → K0 (a.put op.dst v) w10 := fun v hv => hK _ _ hb (Below.refl _ _) hv
    have hcase : i = 0 ∨ i = 1 ∨ i = 2 ∨ i = 3 ∨ i = 4 ∨ i = 5 ∨ i = 6 ∨ i = 7 ∨ i = 8 ∨ i = 9 ∨ i = 10 ∨ i = 11 ∨ i = 12 ∨ i = 13 ∨ i = 14 ∨ i = 15 ∨ i = 16 ∨ i = 17 ∨ i = 18 ∨ i = 19 ∨ i = 20 ∨ i = 21 ∨ i = 22 ∨ i = 23 ∨ i = 24 ∨ i = 25 ∨ i = 26 ∨ i = 27 := by omega
    rcases hcase with h | h | h | h | h | h | h | h | h | h | h | h | h | h | h | h | h | h | h | h | h | h | h | h | h | h | h | h <;> subst h <;> have ho' := Option.some.inj hop <;> subst ho'
    · exact fa_yard (.tmp 2) 2 (by omega) rfl w.heap.size (0) q2 (hn _ rfl)
    · exact vl_load 24 agg_Moves (.tmp 14) rfl _ _ (dv ⟨0, .data⟩ (by simp) rfl) kB.q2 (hn _ rfl)
    · exact fa_yard (.tmp 2) 0 (by omega) rfl w.heap.size (0) q2 (hn _ rfl)
    · exact vl_load 22 agg_Trucks (.tmp 16) rfl _ _ (dv ⟨2, .data⟩ (by simp) rfl) kB.q0 (hn _ rfl)
    · exact fa_yard (.tmp 2) 1 (by omega) rfl w.heap.size (0) q2 (hn _ rfl)
    · exact vl_load 23 agg_rows (.tmp 18) rfl _ _ (dv ⟨4, .data⟩ (by simp) rfl) kB.q1 (hn _ rfl)
    · exact vl_move (.tmp 1) rfl _ q1 (hn _ rfl)
    · exact vl_call4 6 _ _ _ _ (.tmp 15) (.tmp 17) (.tmp 19) (.tmp 20) rfl enter_Check _ _ _ _ (dv ⟨1, .data⟩ (by simp) rfl) (dv ⟨3, .data⟩ (by simp) rfl) (dv ⟨5, .data⟩ (by simp) rfl) (dv ⟨6, .data⟩ (by simp) rfl) ((HCK.out _ kB.hb (HX.out.keep kB.hb)).mono fun e w8 ⟨he, hb8⟩ => ⟨_, he, hK _ _ (ext_trans hb hb8) hb8 rfl⟩)
    · exact fa_yard (.tmp 2) 2 (by omega) rfl w.heap.size (0) q2 (hn _ rfl)
    · exact vl_load 24 agg_Moves (.tmp 22) rfl _ _ (dv ⟨8, .data⟩ (by simp) rfl) kB.q2 (hn _ rfl)
    · exact fa_yard (.tmp 2) 0 (by omega) rfl w.heap.size (0) q2 (hn _ rfl)
    · exact vl_load 22 agg_Trucks (.tmp 24) rfl _ _ (dv ⟨10, .data⟩ (by simp) rfl) kB.q0 (hn _ rfl)
    · exact fa_yard (.tmp 2) 1 (by omega) rfl w.heap.size (0) q2 (hn _ rfl)
    · exact vl_load 23 agg_rows (.tmp 26) rfl _ _ (dv ⟨12, .data⟩ (by simp) rfl) kB.q1 (hn _ rfl)
    · exact vl_move (.tmp 1) rfl _ q1 (hn _ rfl)
    · exact vl_call4 7 _ _ _ _ (.tmp 23) (.tmp 25) (.tmp 27) (.tmp 28) rfl enter_rCheck _ _ _ _ (dv ⟨9, .data⟩ (by simp) rfl) (dv ⟨11, .data⟩ (by simp) rfl) (dv ⟨13, .data⟩ (by simp) rfl) (dv ⟨14, .data⟩ (by simp) rfl) ((HRC.out _ kB.hb).mono fun e w8 ⟨he, hb8⟩ => ⟨_, he, hK _ _ (ext_trans hb hb8) hb8 rfl⟩)
    · exact eq_ints _ _ Tryz.underlying30 (.tmp 21) (.tmp 29) rfl _ _ (dv ⟨7, .data⟩ (by simp) rfl) (dv ⟨15, .data⟩ (by simp) rfl) (hn _ (by simp; rfl))
    · exact vl_move (.tmp 30) rfl _ (dv ⟨16, .data⟩ (by simp) rfl) (hn _ rfl)
    · exact vl_move (.tmp 1) rfl _ q1 (hn _ rfl)
    · exact vl_call1 8 _ (.tmp 32) rfl enter_Last _ (dv ⟨18, .data⟩ (by simp) rfl) ((HLS.out _ (HX.out.keep kB.hb)).mono fun e w8 ⟨he, hb8⟩ => ⟨_, he, hK _ _ (ext_trans hb hb8) hb8 rfl⟩)
    · exact vl_move (.tmp 1) rfl _ q1 (hn _ rfl)
    · exact vl_call1 9 _ (.tmp 34) rfl enter_rLast _ (dv ⟨20, .data⟩ (by simp) rfl) ((HRL.out _ (HX.out.keep kB.hb)).mono fun e w8 ⟨he, hb8⟩ => ⟨_, he, hK _ _ (ext_trans hb hb8) hb8 rfl⟩)
    · exact eq_ints _ _ Tryz.underlying3 (.tmp 33) (.tmp 35) rfl _ _ (dv ⟨19, .data⟩ (by simp) rfl) (dv ⟨21, .data⟩ (by simp) rfl) (hn _ (by simp; rfl))
    · exact vl_pick (.tmp 31) (.tmp 36) (.const (.bool false)) rfl true _ _ (dv ⟨17, .data⟩ (by simp) rfl) (dv ⟨22, .data⟩ (by simp) rfl) rfl (hn _ rfl)
    · exact vl_move (.tmp 37) rfl _ (dv ⟨23, .data⟩ (by simp) rfl) (hn _ rfl)
    · exact vl_call0 5 rfl enter_awake ((HL.out.aw _ kB.hb).mono fun e w8 ⟨he, hb8⟩ => ⟨_, he, hK _ _ (ext_trans hb hb8) hb8 rfl⟩)
    · exact vl_pick (.tmp 38) (.tmp 39) (.const (.bool false)) rfl true _ _ (dv ⟨24, .data⟩ (by simp) rfl) (dv ⟨25, .data⟩ (by simp) rfl) rfl (hn _ rfl)
    · exact vl_assign (.tmp 40) rfl _ (dv ⟨26, .data⟩ (by simp) rfl) (hn _ rfl)
  · rintro a w10 hsm hb hv
    have vr : a.eval (.tmp 4) = .bool true := hv 27 (by decide)
    have hsm' : Sm [14, 15, 16, 17, 18, 19, 20, 21, 22, 23, 24, 25, 26, 27, 28, 29, 30, 31, 32, 33, 34, 35, 36, 37, 38, 39, 40, 4] a0 a := hsm
    have HA := hsm'.lit
    simp only [List.foldl] at HA
    rw [vr] at HA
    generalize a.eval (.tmp 14) = t14 at HA
    generalize a.eval (.tmp 15) = t15 at HA
    generalize a.eval (.tmp 16) = t16 at HA
    generalize a.eval (.tmp 17) = t17 at HA
    generalize a.eval (.tmp 18) = t18 at HA
    generalize a.eval (.tmp 19) = t19 at HA
    generalize a.eval (.tmp 20) = t20 at HA
    generalize a.eval (.tmp 21) = t21 at HA
    generalize a.eval (.tmp 22) = t22 at HA
    generalize a.eval (.tmp 23) = t23 at HA
    generalize a.eval (.tmp 24) = t24 at HA
    generalize a.eval (.tmp 25) = t25 at HA
    generalize a.eval (.tmp 26) = t26 at HA
    generalize a.eval (.tmp 27) = t27 at HA
    generalize a.eval (.tmp 28) = t28 at HA
    generalize a.eval (.tmp 29) = t29 at HA
    generalize a.eval (.tmp 30) = t30 at HA
    generalize a.eval (.tmp 31) = t31 at HA
    generalize a.eval (.tmp 32) = t32 at HA
    generalize a.eval (.tmp 33) = t33 at HA
    generalize a.eval (.tmp 34) = t34 at HA
    generalize a.eval (.tmp 35) = t35 at HA
    generalize a.eval (.tmp 36) = t36 at HA
    generalize a.eval (.tmp 37) = t37 at HA
    generalize a.eval (.tmp 38) = t38 at HA
    generalize a.eval (.tmp 39) = t39 at HA
    generalize a.eval (.tmp 40) = t40 at HA
    rw [HA, ha0]
    simp only [Act.put, List.setIfInBounds_toArray, List.set_cons_zero, List.set_cons_succ]
    clear HA hsm hsm' hv vr ha0 z2 z1
    have HBF := Lib.hid (HB1.out.keep hb)
    go_wp2_with fail
    go_ret
    exact ⟨rfl, HBF.out.hb⟩
end Go.Proofs.YtpbmmdoodmbneaaGreatDoor
