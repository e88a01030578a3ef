/- Contracts: stays of dock and of its reference. -/
import Derived.Test.YtgmecjmepbaolaaDoorDokApp
set_option linter.unusedSimpArgs false
set_option linter.unusedVariables false
namespace Go.Proofs.YtgmecjmepbaolaaDoor
open Go.RowKit

theorem yAt_new2 (w : World) (x : Ber) (e f : TypeId) : YAt ((w.alloc (.cells (syCs x) e)).alloc (.cells (syCs x) f)) (w.heap.size + 1) 0 x := by
  have h := syC (obj_two w (syCs x) (syCs x) e f).2
  exact ⟨h.c0, h.c1, h.c2, h.c3, h.c4, h.c5, h.c6, h.c7⟩
theorem copyB (w : World) (x : Ber) : ∃ W1, Hid (ObjAt W1 w.heap.size (syCs x) 29) ∧ Hid (Below w.heap.size w W1) ∧ Hid (w.alloc (.cells #[.string (bs x.hull), .string (bs x.dock), .int .i64 x.x, .int .i64 x.y, .int .i64 x.len, .int .i64 x.wid, .int .i64 x.a, .int .i64 x.b] 29) = W1) ∧ Hid (w.heap.size < W1.heap.size) :=
  ⟨w.alloc (.cells (syCs x) 29), ObjAt.new _ _ _, (Below.refl _ _).alloc (Nat.le_refl _) _, rfl, by show _ < _; simp⟩
def RetY (w : World) (l : List Ber) (e : Ending) (w' : World) : Prop := ∃ v, e = .returned v ∧ OwnY w' w.heap.size v l ∧ Below w.heap.size w w'
set_option maxRecDepth 100000 in
set_option maxHeartbeats 1000000 in
theorem stays_any (v : Value) (l : List Ber) (w : World) (h : SB w v l) (hn : l.length ≤ 100000) : Calls Tryd.prog 13 #[v] w (RetY w l) := by
  obtain ⟨a, cap, rfl, h1, h2, h3⟩ := h
  have H3 := Lib.hid h3; clear h3
  have hm : l.length ≤ 9223372036854775807 := by unfold maxLen at h2; omega
  go_enter Tryd.func13, Tryd.ntmps13
  go_wp2_with fail
  go_loopw [3, 8] (fun s i wr => ∃ k : Nat, k ≤ l.length ∧ i = .int .i64 k ∧ Hid (Below w.heap.size w wr) ∧ Hid (OwnY wr w.heap.size s (l.take k))) (fun _ i _ => l.length - (intOf i).toNat)
  case atStart => exact ⟨0, Nat.zero_le _, rfl, Lib.hid (Below.refl _ _), OwnY_nil _ _⟩
  case round =>
    obtain ⟨k, hk, rfl, hb, ho⟩ := hrel
    by_cases hlt : k < l.length
    · obtain ⟨b, off, rfl, hc⟩ := H3.out k hlt
      obtain ⟨c0, c1, c2, c3, c4, c5, c6, c7⟩ := hc.keep hb.out
      clear hc
      have HO := Lib.hid (((ho.out.alloc (.cells #[.string (bs (bri l k).hull), .string (bs (bri l k).dock), .int .i64 (bri l k).x, .int .i64 (bri l k).y, .int .i64 (bri l k).len, .int .i64 (bri l k).wid, .int .i64 (bri l k).a, .int .i64 (bri l k).b] 29)).alloc (.cells #[.string (bs (bri l k).hull), .string (bs (bri l k).dock), .int .i64 (bri l k).x, .int .i64 (bri l k).y, .int .i64 (bri l k).len, .int .i64 (bri l k).wid, .int .i64 (bri l k).a, .int .i64 (bri l k).b] 40)))
      have HN := Lib.hid (sY_one (yAt_new2 wr (bri l k) 29 40))
      unfold syCs at HN
      go_wp2_with (at_builtin; refine wpList_app_Y rfl (.tmp 12) (.tmp 26) rfl w.heap.size _ (l.take k) [bri l k] rfl HO.out ⟨wr.heap.size + 1, 0, none⟩ 1 1 rfl HN.out ?c3 ?c4 ?_)
      case c3 => simp; omega
      case c4 => have := hb.out.size; simp; omega
      intro v' w' ho' hg' _
      clear c0 c1 c2 c3 c4 c5 c6 c7
      have HO' : Hid (OwnY w' w.heap.size v' (l.take (k + 1))) := by show _; rw [take_bri hlt]; exact ho'
      have HB' : Hid (Below w.heap.size w w') := ((hb.out.alloc hb.out.size _).alloc (by have := hb.out.size; simp; omega) _).grown hg' (by have := hb.out.size; simp; omega) (fun q hq => (OwnY.lt ho.out q hq).1)
      clear ho' hg'
      go_wp2_with fail
      go_roundw
      case rel => exact ⟨k + 1, by omega, by go_num, HB', HO'⟩
      case measure => simp [intOf]; omega
    · obtain rfl : k = l.length := by omega
      have HO : Hid (OwnY wr w.heap.size u3 l) := by have := ho.out; rw [List.take_length] at this; exact this
      go_wp2_with fail
      go_ret
      exact ⟨_, rfl, HO.out, hb.out⟩
set_option maxRecDepth 100000 in
set_option maxHeartbeats 1000000 in
theorem rstays_any (v : Value) (l : List Ber) (w : World) (h : SB w v l) (hn : l.length ≤ 100000) : Calls Tryd.prog 11 #[v] w (RetY w l) := by
  obtain ⟨a, cap, rfl, h1, h2, h3⟩ := h
  have H3 := Lib.hid h3; clear h3
  have hm : l.length ≤ 9223372036854775807 := by unfold maxLen at h2; omega
  go_enter Tryd.func11, Tryd.ntmps11
  go_wp2_with fail
  go_loopw [3, 4] (fun s i wr => ∃ k : Nat, k ≤ l.length ∧ i = .int .i64 k ∧ Hid (Below w.heap.size w wr) ∧ Hid (OwnY wr w.heap.size s (l.take k))) (fun _ i _ => l.length - (intOf i).toNat)
  case atStart => exact ⟨0, Nat.zero_le _, rfl, Lib.hid (Below.refl _ _), OwnY_nil _ _⟩
  case round =>
    obtain ⟨k, hk, rfl, hb, ho⟩ := hrel
    by_cases hlt : k < l.length
    · obtain ⟨b, off, rfl, hc⟩ := H3.out k hlt
      obtain ⟨c0, c1, c2, c3, c4, c5, c6, c7⟩ := hc.keep hb.out
      clear hc
      have HO := Lib.hid (((ho.out.alloc (.cells #[.string (bs (bri l k).hull), .string (bs (bri l k).dock), .int .i64 (bri l k).x, .int .i64 (bri l k).y, .int .i64 (bri l k).len, .int .i64 (bri l k).wid, .int .i64 (bri l k).a, .int .i64 (bri l k).b] 29)).alloc (.cells #[.string (bs (bri l k).hull), .string (bs (bri l k).dock), .int .i64 (bri l k).x, .int .i64 (bri l k).y, .int .i64 (bri l k).len, .int .i64 (bri l k).wid, .int .i64 (bri l k).a, .int .i64 (bri l k).b] 40)))
      have HN := Lib.hid (sY_one (yAt_new2 wr (bri l k) 29 40))
      unfold syCs at HN
      go_wp2_with (at_builtin; refine wpList_app_Y rfl (.tmp 16) (.tmp 30) rfl w.heap.size _ (l.take k) [bri l k] rfl HO.out ⟨wr.heap.size + 1, 0, none⟩ 1 1 rfl HN.out ?c3 ?c4 ?_)
      case c3 => simp; omega
      case c4 => have := hb.out.size; simp; omega
      intro v' w' ho' hg' _
      clear c0 c1 c2 c3 c4 c5 c6 c7
      have HO' : Hid (OwnY w' w.heap.size v' (l.take (k + 1))) := by show _; rw [take_bri hlt]; exact ho'
      have HB' : Hid (Below w.heap.size w w') := ((hb.out.alloc hb.out.size _).alloc (by have := hb.out.size; simp; omega) _).grown hg' (by have := hb.out.size; simp; omega) (fun q hq => (OwnY.lt ho.out q hq).1)
      clear ho' hg'
      go_wp2_with fail
      go_roundw
      case rel => exact ⟨k + 1, by omega, by go_num, HB', HO'⟩
      case measure => simp [intOf]; omega
    · obtain rfl : k = l.length := by omega
      have HO : Hid (OwnY wr w.heap.size u3 l) := by have := ho.out; rw [List.take_length] at this; exact this
      go_wp2_with fail
      go_ret
      exact ⟨_, rfl, HO.out, hb.out⟩
theorem rfindB_any (v : Value) (l : List Ber) (name : List UInt8) (w : World) (h : SB w v l) : Calls Tryd.prog 12 #[v, .string (bs name)] w (Ret w (.int .i64 (findG (fun b => b.hull == name) l))) := by
  obtain ⟨a, cap, rfl, h1, h2, h3⟩ := h
  have H3 := Lib.hid h3; clear h3
  have hm : l.length ≤ 9223372036854775807 := by unfold maxLen at h2; omega
  go_enter Tryd.func12, Tryd.ntmps12
  go_wp2_with fail
  go_loopw [5] (fun i wr => ∃ k : Nat, k ≤ l.length ∧ i = .int .i64 k ∧ Hid (Below w.heap.size w wr) ∧ Hid (∀ j, j < k → ((fun b : Ber => b.hull == name) (bri l j)) = false)) (fun i _ => l.length - (intOf i).toNat)
  case atStart => exact ⟨0, Nat.zero_le _, rfl, Lib.hid (Below.refl _ _), Lib.hid fun j hj => by omega⟩
  case round =>
    obtain ⟨k, hk, rfl, hb, hj⟩ := hrel
    by_cases hlt : k < l.length
    · obtain ⟨b, off, rfl, hc⟩ := H3.out k hlt
      have c0 := (hc.keep hb.out).c0
      have HE := Lib.hid (bs_eq (bri l k).hull name)
      clear hc
      obtain ⟨ex, hex⟩ : ∃ ex, ((bs (bri l k).hull).toList == (bs name).toList) = ex := ⟨_, rfl⟩
      have HX := Lib.hid hex
      cases ex
      · have HJ := Lib.hid (upto (q := fun j => ((fun b : Ber => b.hull == name) (bri l j)) = false) hj.out (HE.out.symm.trans hex))
        go_wp2_with fail
        go_roundw
        case rel => exact ⟨k + 1, by omega, by go_num, hb, HJ⟩
        case measure => simp [intOf]; omega
      · have HV := Lib.hid (findG_hit (fun b : Ber => b.hull == name) l k hlt hj.out (HE.out.symm.trans hex))
        go_wp2_with fail
        go_ret
        exact ⟨ret_int HV.out.symm, hb.out⟩
    · have HV := Lib.hid (findG_miss (fun b : Ber => b.hull == name) l (fun j h => hj.out j (by omega)))
      go_wp2_with fail
      go_ret
      exact ⟨ret_int HV.out.symm, hb.out⟩
theorem hullC_any (x y : Ber) (b1 : Nat) (w : World) (h : w.cell? ⟨b1, 0, none⟩ = some (.string (bs y.hull))) : Calls Tryd.prog 15 #[syV x, .pointer (some ⟨b1, 0, none⟩)] w (Ret w (.bool (x.hull == y.hull))) := by
  have HE := Lib.hid (bs_eq x.hull y.hull)
  have hb : b1 < w.heap.size := World.block_lt_of_cell? w _ h
  unfold syV
  go_enter Tryd.func15, Tryd.ntmps15
  go_wp2_with fail
  go_ret
  exact ⟨ret_bool HE.out, (Below.refl _ _).alloc (Nat.le_refl _) _⟩
theorem enter_hullC : ∀ args w, (callFunc 15 args).run Tryd.prog w = .ok (.enter 15 args) w := enters_of Tryd.func15 (by kernel_rfl) rfl
theorem hullF_any (x y : Ber) (b1 : Nat) (w : World) (h : w.cell? ⟨b1, 0, none⟩ = some (.string (bs y.hull))) : Calls Tryd.prog 19 #[syV x, .pointer (some ⟨b1, 0, none⟩)] w (Ret w (.bool (x.hull == y.hull))) := by
  have HE := Lib.hid (bs_eq x.hull y.hull)
  have hb : b1 < w.heap.size := World.block_lt_of_cell? w _ h
  unfold syV
  go_enter Tryd.func19, Tryd.ntmps19
  go_wp2_with fail
  go_ret
  exact ⟨ret_bool HE.out, (Below.refl _ _).alloc (Nat.le_refl _) _⟩
theorem enter_hullF : ∀ args w, (callFunc 19 args).run Tryd.prog w = .ok (.enter 19 args) w := enters_of Tryd.func19 (by kernel_rfl) rfl
end Go.Proofs.YtgmecjmepbaolaaDoor
