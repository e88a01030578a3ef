/- Contracts: Floods and starts of dock. -/
import Derived.Test.YtlmfcigabojbmaaGreatDoorDokW
import Derived.Test.YtlmfcigabojbmaaGreatDoorSoI
set_option linter.unusedSimpArgs false
set_option linter.unusedVariables false
namespace Go.Proofs.YtlmfcigabojbmaaGreatDoor
open Go.RowKit

def floodL (l : List Ber) (dock : List UInt8) : List Int := (l.filter fun u => u.dock == dock).map (·.b)
theorem filter_snoc {α β : Type} (p : α → Bool) (f : α → β) (l : List α) (x : α) : ((l ++ [x]).filter p).map f = if p x = true then (l.filter p).map f ++ [f x] else (l.filter p).map f := by
  rw [List.filter_append, List.map_append]
  cases h : p x <;> simp [List.filter_cons, h]
theorem filter_len {α β : Type} (p : α → Bool) (f : α → β) (l : List α) : ((l.filter p).map f).length ≤ l.length := by
  rw [List.length_map]; exact List.length_filter_le _ _
def RetTs (w : World) (zs : List Int) (e : Ending) (w' : World) : Prop := ∃ v, e = .returned v ∧ SI w' v (Lib.compact (sortL zs)) ∧ Below w.heap.size w w'
theorem retTs_mem {zs : List Int} {t : Int} : t ∈ Lib.compact (sortL zs) ↔ t ∈ zs := compact_mem.trans sortL_mem
/-- the end: sorted, each once -/
theorem done_ts {w wr : World} {v : Value} {zs : List Int} (ho : OwnI wr w.heap.size v zs) (hb : Below w.heap.size w wr) (hl : zs.length ≤ 1000000) :
    Calls Tryz.prog 59 #[v] wr fun e w' => e = .returned (.tuple #[]) ∧ Calls Tryz.prog 60 #[v] w' (RetTs w zs) :=
  (sort_any v w.heap.size zs wr (RowH.of ho) hl).mono fun e w' ⟨he, h1, h2⟩ => ⟨he, (compact_any v w.heap.size (sortL zs) w' h1 (by rw [sortL_len]; exact hl)).mono fun e' w2 ⟨v', e1, e2, e3⟩ => ⟨v', e1, e2, (hb.trans (h2.1 _ (Nat.le_refl _) hb.size)).trans (e3 _ (Nat.le_refl _))⟩⟩
theorem copyB (w : World) (x : Ber) : ∃ W1, Hid (ObjAt W1 w.heap.size (syCs x) 50) ∧ Hid (Below w.heap.size w W1) ∧ Hid (w.alloc (.cells #[.string (bs x.hull), .string (bs x.dock), .int .i64 x.x, .int .i64 x.y, .int .i64 x.len, .int .i64 x.wid, .int .i64 x.a, .int .i64 x.b] 50) = W1) ∧ Hid (w.heap.size < W1.heap.size) :=
  ⟨w.alloc (.cells (syCs x) 50), ObjAt.new _ _ _, (Below.refl _ _).alloc (Nat.le_refl _) _, rfl, by show _ < _; simp⟩
theorem OwnI_one (w : World) (B : Nat) (x : Int) (h : B ≤ w.heap.size) : OwnI (w.alloc (.cells #[.int .i64 x] 3)) B (.slice (some ⟨w.heap.size, 0, none⟩) 1 1) [x] :=
  World.ownsRow_lit w #[.int .i64 x] 1 h (by unfold maxLen; omega) rfl
set_option maxRecDepth 100000 in
set_option maxHeartbeats 1000000 in
theorem starts_any (v : Value) (l : List Ber) (first : Int) (w : World) (h : SB w v l) (hn : l.length ≤ 100000) : Calls Tryz.prog 37 #[v, .int .i64 first] w (RetTs w (endsL l first)) := by
  obtain ⟨a, cap, rfl, h1, h2, h3⟩ := h
  have H3 := Lib.hid h3; clear h3
  have hm : l.length ≤ 9223372036854775807 := by omega
  go_enter Tryz.func37, Tryz.ntmps37
  go_wp2_with fail
  have HB0 := Lib.hid ((Below.refl w.heap.size w).alloc (Nat.le_refl _) (.cells #[.int .i64 first] 3))
  have HO0 := Lib.hid (OwnI_one w w.heap.size first (Nat.le_refl _))
  go_loopw [5, 12] (fun s i wr => ∃ k : Nat, k ≤ l.length ∧ i = .int .i64 k ∧ Hid (Below w.heap.size w wr) ∧ Hid (OwnI wr w.heap.size s (endsL (l.take k) first))) (fun _ i _ => l.length - (intOf i).toNat)
  case atStart => exact ⟨0, Nat.zero_le _, rfl, HB0, HO0⟩
  case round =>
    obtain ⟨k, hk, rfl, hb, ho⟩ := hrel
    by_cases hlt : k < l.length
    · obtain ⟨b, off, rfl, hc⟩ := H3.out k hlt
      obtain ⟨c0, c1, c2, c3, c4, c5, c6, c7⟩ := hc.keep hb.out
      obtain ⟨W1, HO1, HC1, HW, HZ⟩ := copyB wr (bri l k)
      have HB1 := Lib.hid (ext_trans hb.out HC1.out)
      have HOW := Lib.hid (ho.out.below HC1.out)
      have HF : Hid (endsL (l.take (k + 1)) first = if decide (first < (bri l k).b) = true then endsL (l.take k) first ++ [(bri l k).b] else endsL (l.take k) first) := by
        show _ = _; unfold endsL; rw [take_bri hlt, filter_snoc]; split <;> rfl
      have HLEN : Hid ((endsL (l.take k) first).length + ([(bri l k).b] : List Int).length ≤ 100000000) := by
        show _ ≤ _
        have := filter_len (fun u : Ber => decide (first < u.b)) (·.b) (l.take k)
        rw [List.length_take] at this
        unfold endsL; simp only [List.length_cons, List.length_nil]; omega
      clear hc
      go_upto_region 5 with fail
      rw [HW.out]
      clear c0 c1 c2 c3 c4 c5 c6 c7 HW
      obtain ⟨p0, p1, p2, p3, p4, p5, p6, p7⟩ := syC HO1.out
      have hz1 : wr.heap.size < W1.heap.size := HZ.out
      have hz2 : w.heap.size ≤ W1.heap.size := HB1.out.size
      obtain ⟨ex, hex⟩ : ∃ ex, decide (first < (bri l k).b) = ex := ⟨_, rfl⟩
      cases ex
      · have HO' : Hid (OwnI W1 w.heap.size u5 (endsL (l.take (k + 1)) first)) := by show _; rw [HF.out, hex, if_neg (by decide)]; exact HOW.out
        go_wp2_with fail
        go_roundw
        case rel => exact ⟨k + 1, by omega, by go_num, HB1, HO'⟩
        case measure => simp [intOf]; omega
      · have HX : Hid (decide (first < (bri l k).b) = true) := hex
        have HOA := Lib.hid (HOW.out.alloc (.cells #[.int .i64 (bri l k).b] 3))
        have HSA := Lib.hid (SI_one W1 (bri l k).b 3)
        go_wp2_with (at_builtin; refine wpList_app_int rfl (.tmp 21) (.tmp 25) rfl w.heap.size _ _ (endsL (l.take k) first) [(bri l k).b] rfl rfl HOA.out HSA.out HLEN.out ?c4 ?_)
        case c4 => first | omega | (simp; omega)
        intro v' w' ho' hg' _
        have HB' := Lib.hid (grown_below HB1.out (fun q hq => (World.ownsRow.lt HOW.out q hq).1) _ hg')
        have HO' : Hid (OwnI w' w.heap.size v' (endsL (l.take (k + 1)) first)) := by show _; rw [HF.out, if_pos HX.out]; exact ho'
        clear ho' hg' hex p0 p1 p2 p3 p4 p5 p6 p7
        go_wp2_with fail
        go_roundw
        case rel => exact ⟨k + 1, by omega, by go_num, HB', HO'⟩
        case measure => simp [intOf]; omega
    · obtain rfl : k = l.length := by omega
      have HO : Hid (OwnI wr w.heap.size u5 (endsL l first)) := by have := ho.out; rw [List.take_length] at this; exact this
      have HLN : Hid ((endsL l first).length ≤ 1000000) := by show _ ≤ _; have := filter_len (fun u : Ber => decide (first < u.b)) (·.b) l; unfold endsL; simp only [List.length_cons]; omega
      go_wp2_with fail
      refine (done_ts HO.out hb.out HLN.out).mono ?_
      rintro e w1 ⟨rfl, hcmp⟩
      have HCMP := Lib.hid hcmp; clear hcmp
      go_wp2_with fail
      refine HCMP.out.mono ?_
      rintro e w2 ⟨v2, rfl, hs2, hb2⟩
      have HS2 := Lib.hid hs2; have HB2 := Lib.hid hb2; clear hs2 hb2
      go_wp2_with fail
      go_ret
      exact ⟨_, rfl, HS2.out, HB2.out⟩
end Go.Proofs.YtlmfcigabojbmaaGreatDoor
