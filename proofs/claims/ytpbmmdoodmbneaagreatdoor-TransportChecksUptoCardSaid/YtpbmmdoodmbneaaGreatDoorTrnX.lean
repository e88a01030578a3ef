/- The laws' common ground: the yard that was boxed, the calls a law makes in each later world. -/
import Derived.Test.YtpbmmdoodmbneaaGreatDoorTrnR
import Derived.Test.YtpbmmdoodmbneaaGreatDoorTrnP
import Derived.Test.YtpbmmdoodmbneaaGreatDoorTrnK
import Derived.Test.YtpbmmdoodmbneaaGreatDoorTrnSpec
import Derived.Outline

/- The numbers of the chapter: plain, and the contract of awake. -/
namespace Go.Proofs.YtpbmmdoodmbneaaGreatDoor
open Go.RowKit

def awT : List Trk := [⟨[84], 100, 2⟩]
def awD : List (List Int) := [[0, 3], [3, 0]]
def awM : List Mov := [⟨[65], 0, 1, 0, 50⟩, ⟨[66], 0, 1, 0, 50⟩]
def awW : List Trp := [⟨[65], [84], 0, 6⟩, ⟨[66], [84], 9, 15⟩]
def awE : List Trp := [⟨[65], [84], 0, 6⟩, ⟨[66], [84], 8, 14⟩]
theorem aw_plan : planV awM awT awD = awW ∧ planE awM awT awD = 0 := by decide +kernel
theorem aw_last : lastV awW = 15 := by decide +kernel
theorem aw_chk : chkTE awM awT awD awW = 0 := by decide +kernel
theorem aw_early : chkTE awM awT awD awE = 19 := by decide +kernel
theorem aw_yard : yardE awT awD = 0 ∧ yardE [] awD = 3 := by decide +kernel
theorem aw_hours : hoursV ⟨[84], 100, 2⟩ awD 0 0 = 1 := by decide +kernel
theorem bs_one (c : UInt8) : bs [c] = ⟨#[c]⟩ := rfl
theorem SI_two {w : World} {b : Nat} {p q : Int} (h0 : w.cell? ⟨b, 0, none⟩ = some (.int .i64 p)) (h1 : w.cell? ⟨b, 1, none⟩ = some (.int .i64 q)) : SI w (.slice (some ⟨b, 0, none⟩) 2 2) [p, q] := by
  refine ⟨_, 2, rfl, Nat.le_refl _, by unfold maxLen; omega, fun i hi => ⟨b, 0, rfl, ?_⟩⟩
  have : i = 0 ∨ i = 1 := by simp at hi; omega
  rcases this with rfl | rfl
  · exact h0
  · exact h1
theorem SS_two {w : World} {b : Nat} {u v : Value} {r s : List Int} (h0 : w.cell? ⟨b, 0, none⟩ = some u) (h1 : w.cell? ⟨b, 1, none⟩ = some v) (hr : SI w u r) (hs : SI w v s) : SS w (.slice (some ⟨b, 0, none⟩) 2 2) [r, s] := by
  refine ⟨fun i => if i = 0 then u else v, ⟨_, 2, rfl, Nat.le_refl _, by unfold maxLen; omega, fun i hi => ⟨b, 0, rfl, ?_⟩⟩, fun i hi => ?_⟩
  · have : i = 0 ∨ i = 1 := by simp at hi; omega
    rcases this with rfl | rfl
    · exact h0
    · exact h1
  · have : i = 0 ∨ i = 1 := by simp at hi; omega
    rcases this with rfl | rfl
    · exact hr
    · exact hs
theorem SM_two {w : World} {b : Nat} {x y : Mov} (h0 : MAt w b 0 x) (h1 : MAt w b 5 y) : SM w (.slice (some ⟨b, 0, none⟩) 2 2) [x, y] := by
  refine ⟨_, 2, rfl, Nat.le_refl _, by unfold maxLen; omega, fun i hi => ⟨b, 0, rfl, ?_⟩⟩
  have : i = 0 ∨ i = 1 := by simp at hi; omega
  rcases this with rfl | rfl
  · exact h0
  · exact h1
theorem SX_two {w : World} {b : Nat} {x y : Trp} (h0 : XAt w b 0 x) (h1 : XAt w b 4 y) : SX w (.slice (some ⟨b, 0, none⟩) 2 2) [x, y] := by
  refine ⟨_, 2, rfl, Nat.le_refl _, by unfold maxLen; omega, fun i hi => ⟨b, 0, rfl, ?_⟩⟩
  have : i = 0 ∨ i = 1 := by simp at hi; omega
  rcases this with rfl | rfl
  · exact h0
  · exact h1
theorem aw_small : (∀ t ∈ awT, t.name.length ≤ maxLen) ∧ ∀ m ∈ awM, m.item.length ≤ maxLen := by
  unfold maxLen awT awM
  constructor
  · intro t ht; simp at ht; subst ht; simp
  · intro m hm; simp at hm; rcases hm with rfl | rfl <;> simp
abbrev AW0 (w : World) (t : TypeId) : World := w.alloc (.cells #[.string (bs [84]), .int .i64 100, .int .i64 2] t)
abbrev AW2 (w : World) (t u : TypeId) : World := ((AW0 w t).alloc (.cells #[.int .i64 0, .int .i64 3] u)).alloc (.cells #[.int .i64 3, .int .i64 0] u)
abbrev AW3 (w : World) (t u x : TypeId) : World := (AW2 w t u).alloc (.cells #[.slice (some ⟨w.heap.size + 1, 0, none⟩) 2 2, .slice (some ⟨w.heap.size + 1 + 1, 0, none⟩) 2 2] x)
abbrev AW (w : World) (t u x y : TypeId) : World := (AW3 w t u x).alloc (.cells #[.string (bs [65]), .int .i64 0, .int .i64 1, .int .i64 0, .int .i64 50, .string (bs [66]), .int .i64 0, .int .i64 1, .int .i64 0, .int .i64 50] y)
theorem cell_old {w : World} {o : Obj} {p : Addr} {v : Value} (h : w.cell? p = some v) : (w.alloc o).cell? p = some v := cell_keep ((Below.refl _ _).alloc (Nat.le_refl _) _) h
theorem below_quiet {w w' : World} (h : ∃ n, w' = w.drewN n) : Below w.heap.size w w' := by obtain ⟨n, rfl⟩ := h; exact below_drewN' (Below.refl _ _) n
theorem cell_new {w : World} {vs : Array Value} {t : TypeId} {b k : Nat} {v : Value} (hb : b = w.heap.size) (h : vs[k]? = some v) : (w.alloc (.cells vs t)).cell? ⟨b, k, none⟩ = some v := by subst hb; simp [h]
theorem SK_one {w : World} {b : Nat} {t : Trk} (h : SK w (.slice (some ⟨b, 0, none⟩) 1 1) [t]) : KAt w b 0 t := by
  obtain ⟨a, cap, e, _, _, h3⟩ := h
  obtain ⟨b', off, ha, hc⟩ := h3 0 (by simp)
  simp at e
  obtain ⟨e1, _⟩ := e
  rw [← e1] at ha
  simp at ha
  obtain ⟨rfl, rfl⟩ := ha
  exact hc
theorem al_sz (w : World) (o : Obj) : (w.alloc o).heap.size = w.heap.size + 1 := by simp
theorem AW_m (w : World) (t u x y : TypeId) : SM (AW w t u x y) (.slice (some ⟨w.heap.size + 1 + 1 + 1 + 1, 0, none⟩) 2 2) awM := by
  refine SM_two ?_ ?_ <;> constructor <;> (repeat (first | (refine cell_new ?_ ?_ <;> first | rfl | (simp; done)) | refine cell_old ?_))
theorem AW_k (w : World) (t u x y : TypeId) : SK (AW w t u x y) (.slice (some ⟨w.heap.size, 0, none⟩) 1 1) awT := by
  refine ⟨_, 1, rfl, Nat.le_refl _, by unfold maxLen; omega, fun i hi => ⟨w.heap.size, 0, rfl, ?_⟩⟩
  obtain rfl : i = 0 := by simp [awT] at hi; omega
  constructor <;> (unfold awT tki) <;> (repeat (first | (refine cell_new ?_ ?_ <;> first | rfl | (simp; done)) | refine cell_old ?_))
theorem AW_d (w : World) (t u x y : TypeId) : SS (AW w t u x y) (.slice (some ⟨w.heap.size + 1 + 1 + 1, 0, none⟩) 2 2) awD := by
  refine SS_two (u := .slice (some ⟨w.heap.size + 1, 0, none⟩) 2 2) (v := .slice (some ⟨w.heap.size + 1 + 1, 0, none⟩) 2 2) ?_ ?_ (SI_two ?_ ?_) (SI_two ?_ ?_) <;> (repeat (first | (refine cell_new ?_ ?_ <;> first | rfl | (simp; done)) | refine cell_old ?_))
theorem AW_b (w : World) (t u x y : TypeId) : Below w.heap.size w (AW w t u x y) :=
  ((((Below.refl _ _).alloc (Nat.le_refl _) _).alloc (by simp) _ |>.alloc (by simp; omega) _).alloc (by simp; omega) _).alloc (by simp; omega) _
abbrev AX (w : World) (t : TypeId) : World := (w.alloc (.cells #[.string (bs [65]), .string (bs [84]), .int .i64 0, .int .i64 6, .string (bs [66]), .string (bs [84]), .int .i64 9, .int .i64 15] t)).alloc (.cells #[.string (bs [65]), .string (bs [84]), .int .i64 0, .int .i64 6, .string (bs [66]), .string (bs [84]), .int .i64 8, .int .i64 14] t)
theorem AX_w (w : World) (t : TypeId) : SX (AX w t) (.slice (some ⟨w.heap.size, 0, none⟩) 2 2) awW := by
  refine SX_two ?_ ?_ <;> constructor <;> (repeat (first | (refine cell_new ?_ ?_ <;> first | rfl | (simp; done)) | refine cell_old ?_))
theorem AX_e (w : World) (t : TypeId) : SX (AX w t) (.slice (some ⟨w.heap.size + 1, 0, none⟩) 2 2) awE := by
  refine SX_two ?_ ?_ <;> constructor <;> (repeat (first | (refine cell_new ?_ ?_ <;> first | rfl | (simp; done)) | refine cell_old ?_))
theorem AX_b (w : World) (t : TypeId) : Below w.heap.size w (AX w t) := ((Below.refl _ _).alloc (Nat.le_refl _) _).alloc (by simp) _
set_option maxHeartbeats 4000000 in
set_option maxRecDepth 100000 in
theorem awake_any (w : World) (hM : MLen w) : Calls Tryz.prog 5 #[] w (Ret w (.bool true)) := by
  have HML := Lib.hid hM
  go_enter Tryz.func5, Tryz.ntmps5
  go_wp2_with fail
  refine (Plan_any _ _ _ awM awT awD _ (AW_m w _ _ _ _) (AW_k w _ _ _ _) (AW_d w _ _ _ _) aw_small.1 aw_small.2 (HML.out.keep (AW_b w _ _ _ _))).mono ?_
  rintro e w1 ⟨v, rfl, hx, hb⟩
  have hb1 := ext_trans (AW_b w _ _ _ _) hb
  have HMv := Lib.hid ((AW_m w _ _ _ _).keep hb)
  have HKv := Lib.hid ((AW_k w _ _ _ _).keep hb)
  have HDv := Lib.hid ((AW_d w _ _ _ _).keep hb)
  have HX := Lib.hid hx
  have HB1 := Lib.hid hb1
  rw [aw_plan.2]
  rw [aw_plan.1] at HX
  clear hx hb hb1
  go_wp2_with fail
  refine (rSame_trips _ _ awW awW _ (HX.out.keep (AX_b w1 _)) (AX_w w1 _)).mono ?_
  rintro e w2 ⟨rfl, hq⟩
  have hb := ext_trans (AX_b w1 _) (below_quiet hq)
  have HX2 := Lib.hid (HX.out.keep hb)
  have HM2 := Lib.hid (HMv.out.keep hb)
  have HK2 := Lib.hid (HKv.out.keep hb)
  have HD2 := Lib.hid (HDv.out.keep hb)
  have HW2 := Lib.hid ((AX_w w1 _).keep (below_quiet hq))
  have HE2 := Lib.hid ((AX_e w1 _).keep (below_quiet hq))
  have HB2 := Lib.hid (ext_trans HB1.out hb)
  clear hb hq HX HMv HKv HDv HB1
  rw [decide_eq_true rfl]
  go_wp2_with fail
  refine (Last_any _ awW _ HX2.out).mono ?_
  rintro e w3 ⟨rfl, hb⟩
  have HM3 := Lib.hid (HM2.out.keep hb)
  have HK3 := Lib.hid (HK2.out.keep hb)
  have HD3 := Lib.hid (HD2.out.keep hb)
  have HW3 := Lib.hid (HW2.out.keep hb)
  have HE3 := Lib.hid (HE2.out.keep hb)
  have HB3 := Lib.hid (ext_trans HB2.out hb)
  clear hb HX2 HM2 HK2 HD2 HW2 HE2 HB2
  rw [aw_last]
  go_wp2_with fail
  refine (Check_any _ _ _ _ awM awT awD awW _ HM3.out HK3.out HD3.out HW3.out aw_small.1 aw_small.2 (HML.out.keep HB3.out)).mono ?_
  rintro e w4 ⟨rfl, hb⟩
  have HM4 := Lib.hid (HM3.out.keep hb)
  have HK4 := Lib.hid (HK3.out.keep hb)
  have HD4 := Lib.hid (HD3.out.keep hb)
  have HE4 := Lib.hid (HE3.out.keep hb)
  have HB4 := Lib.hid (ext_trans HB3.out hb)
  clear hb HM3 HK3 HD3 HW3 HE3 HB3
  rw [aw_chk]
  go_wp2_with fail
  refine (Check_any _ _ _ _ awM awT awD awE _ HM4.out HK4.out HD4.out HE4.out aw_small.1 aw_small.2 (HML.out.keep HB4.out)).mono ?_
  rintro e w5 ⟨rfl, hb⟩
  have HK5 := Lib.hid (HK4.out.keep hb)
  have HD5 := Lib.hid (HD4.out.keep hb)
  have HB5 := Lib.hid (ext_trans HB4.out hb)
  clear hb HM4 HK4 HD4 HE4 HB4
  rw [aw_early]
  go_wp2_with fail
  refine (CheckYard_any _ _ awT awD _ HK5.out HD5.out aw_small.1).mono ?_
  rintro e w6 ⟨rfl, hb⟩
  have HD6 := Lib.hid (HD5.out.keep hb)
  have HB6 := Lib.hid (ext_trans HB5.out hb)
  have HK6 := Lib.hid (HK5.out.keep hb)
  clear hb HK5 HD5 HB5
  rw [aw_yard.1]
  go_wp2_with fail
  refine (CheckYard_any _ _ [] awD _ (SK_nil _) HD6.out (by simp)).mono ?_
  rintro e w7 ⟨rfl, hb⟩
  have HD7 := Lib.hid (HD6.out.keep hb)
  have HB7 := Lib.hid (ext_trans HB6.out hb)
  have hk := SK_one (HK6.out.keep hb)
  have k0 : w7.cell? ⟨w.heap.size, 0, none⟩ = some (.string (bs [84])) := hk.c0
  have k1 : w7.cell? ⟨w.heap.size, 1, none⟩ = some (.int .i64 100) := hk.c1
  have k2 : w7.cell? ⟨w.heap.size, 2, none⟩ = some (.int .i64 2) := hk.c2
  clear hb HD6 HB6 HK6 hk
  rw [aw_yard.2]
  go_wp2_with fail
  refine (Hours_any ⟨[84], 100, 2⟩ _ awD 0 0 _ HD7.out).mono ?_
  rintro e w8 ⟨rfl, hb⟩
  have HB8 := Lib.hid (ext_trans HB7.out hb)
  clear hb HD7 HB7
  rw [aw_hours]
  go_wp2_with fail
  go_ret
  exact ⟨rfl, HB8.out⟩
end Go.Proofs.YtpbmmdoodmbneaaGreatDoor

/- The laws' common ground: the yard that was boxed, the calls a law makes in each later world. -/
namespace Go.Proofs.YtpbmmdoodmbneaaGreatDoor
open Go.RowKit

theorem cell_three (w : World) (v0 v1 v2 : Value) (t : TypeId) : (w.alloc (.cells #[v0, v1, v2] t)).cell? ⟨w.heap.size, 0, none⟩ = some v0 ∧ (w.alloc (.cells #[v0, v1, v2] t)).cell? ⟨w.heap.size, 1, none⟩ = some v1 ∧ (w.alloc (.cells #[v0, v1, v2] t)).cell? ⟨w.heap.size, 2, none⟩ = some v2 :=
  ⟨cell_new rfl rfl, cell_new rfl rfl, cell_new rfl rfl⟩
/-- a yard that was boxed: what holds in each later world -/
structure Yb (w : World) (v0 v1 v2 : Value) (W : World) : Prop where
  q0 : W.cell? ⟨w.heap.size, 0, none⟩ = some v0
  q1 : W.cell? ⟨w.heap.size, 1, none⟩ = some v1
  q2 : W.cell? ⟨w.heap.size, 2, none⟩ = some v2
  qs : w.heap.size < W.heap.size
  hb : Below w.heap.size w W
theorem Yb.start (w : World) (v0 v1 v2 : Value) (t : TypeId) : Yb w v0 v1 v2 (w.alloc (.cells #[v0, v1, v2] t)) := ⟨(cell_three w v0 v1 v2 t).1, (cell_three w v0 v1 v2 t).2.1, (cell_three w v0 v1 v2 t).2.2, by simp, (Below.refl _ _).alloc (Nat.le_refl _) _⟩
theorem Yb.keep {w W W' : World} {v0 v1 v2 : Value} (h : Yb w v0 v1 v2 W) (hb : Below W.heap.size W W') : Yb w v0 v1 v2 W' := ⟨cell_keep hb h.q0, cell_keep hb h.q1, cell_keep hb h.q2, Nat.lt_of_lt_of_le h.qs hb.size, ext_trans h.hb hb⟩
theorem Yb.alloc {w W : World} {v0 v1 v2 : Value} (h : Yb w v0 v1 v2 W) (o : Obj) : Yb w v0 v1 v2 (W.alloc o) := h.keep ((Below.refl _ _).alloc (Nat.le_refl _) _)
/-- the calls of a law -/
structure LT (w : World) (v dv mv : Value) (ms : List Mov) (tr : List Trk) (d : List (List Int)) : Prop where
  lt : ∀ (n : Nat), n ≤ 1000 → ∀ W, Below w.heap.size w W → Calls Tryz.prog 4 #[.agg #[v, dv, mv], .int .i64 n] W (Ret W (.bool (lightB tr d && decide (ms.length ≤ n))))
  aw : ∀ W, Below w.heap.size w W → Calls Tryz.prog 5 #[] W (Ret W (.bool true))
  ck : ∀ l lv W, Below w.heap.size w W → SX W lv l → Calls Tryz.prog 6 #[mv, v, dv, lv] W (Ret W (.int .i64 (chkTE ms tr d l)))
  pl : ∀ W, Below w.heap.size w W → Calls Tryz.prog 11 #[mv, v, dv] W (RetXE W (planV ms tr d) (planE ms tr d))
  cy : ∀ W, Below w.heap.size w W → Calls Tryz.prog 13 #[v, dv] W (Ret W (.int .i64 (yardE tr d)))
  ho : ∀ (t : Trk) (f u : Int) W, Below w.heap.size w W → Calls Tryz.prog 14 #[.agg #[.string (bs t.name), .int .i64 t.load, .int .i64 t.hours], dv, .int .i64 f, .int .i64 u] W (Ret W (.int .i64 (hoursV t d f u)))
theorem LT.of {w : World} {v dv mv : Value} {ms : List Mov} {tr : List Trk} {d : List (List Int)} (hm : SM w mv ms) (hk : SK w v tr) (hd : SS w dv d) (hz : ∀ t ∈ tr, t.name.length ≤ maxLen) (hzm : ∀ m ∈ ms, m.item.length ≤ maxLen) (hM : MLen w) : LT w v dv mv ms tr d :=
  ⟨fun n hn W hW => light_any mv v dv ms tr d n W (hm.keep hW) (hk.keep hW) (hd.keep hW) hn, fun W hW => awake_any W (hM.keep hW),
    fun l lv W hW hl => Check_any mv v dv lv ms tr d l W (hm.keep hW) (hk.keep hW) (hd.keep hW) hl hz hzm (hM.keep hW),
    fun W hW => Plan_any mv v dv ms tr d W (hm.keep hW) (hk.keep hW) (hd.keep hW) hz hzm (hM.keep hW),
    fun W hW => CheckYard_any v dv tr d W (hk.keep hW) (hd.keep hW) hz,
    fun t f u W hW => Hours_any t dv d f u W (hd.keep hW)⟩
end Go.Proofs.YtpbmmdoodmbneaaGreatDoor
