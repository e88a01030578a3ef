/- Contract: the example of calendar's laws. -/
import Derived.Test.YtbjnpiaooehmjaaDoorCalZ
import Derived.Test.YtbjnpiaooehmjaaDoorCalAw
namespace Go.Proofs.YtbjnpiaooehmjaaDoor
open Go.RowKit

theorem sp_row {w : World} {g : Nat} {l : List Sp} {n : Nat} (hn : n = l.length) (h : w.heap[g]? = some (.cells (l.flatMap spCells).toArray 42 (0, 0))) (hl : l.length ≤ 1000) : SP w (.slice (some ⟨g, 0, none⟩) n n) l := by
  subst hn
  have hz : (l.flatMap spCells).toArray.size = l.length * 2 := by
    rw [List.size_toArray]
    clear hl h
    induction l with
    | nil => rfl
    | cons x r ih => rw [List.flatMap_cons, List.length_append, ih, spCells_len, List.length_cons]; omega
  exact OwnSp.sp (B := 0) ⟨by rw [← hz, List.size_toArray], .inr ⟨g, l.length, _, rfl, Nat.zero_le _, h, Nat.le_refl _, by unfold maxLen; omega, hz, by rw [← hz]; exact List.take_of_length_le (Nat.le_of_eq (by rw [Array.length_toList]))⟩⟩
theorem si_one (w : World) (x : Int) (t : TypeId) : SI (w.alloc (.cells #[.int .i64 x] t)) (.slice (some ⟨w.heap.size, 0, none⟩) 1 1) [x] := by
  refine ⟨_, 1, rfl, Nat.le_refl _, by unfold maxLen; omega, fun i hi => ⟨w.heap.size, 0, rfl, ?_⟩⟩
  have : i = 0 := by simp at hi; omega
  subst this
  exact cell_new w (.int .i64 x) t
theorem sp_e1 (w : World) : SP (w.alloc (.cells #[.int .i64 8, .int .i64 16] 42)) (.slice (some ⟨w.heap.size, 0, none⟩) 1 1) eSh := sp_row rfl (MapKept.heap_alloc w _).1 (by decide)
theorem sp_e2 (w : World) : SP (w.alloc (.cells #[.int .i64 8, .int .i64 16, .int .i64 15, .int .i64 20] 42)) (.slice (some ⟨w.heap.size, 0, none⟩) 2 2) eSh2 := sp_row rfl (MapKept.heap_alloc w _).1 (by decide)
theorem eG : Good eSh eCl := good_of ea0
theorem Works_is {v : Value} {sh : List Sp} {cl : List Int} {t : Int} {w : World} {b : Bool} (h : CalP w v sh cl) (hg : Good sh cl) (e : workB sh cl t = b) : Calls Tryd.prog 10 #[v, .int .i64 t] w (Ret w (.bool b)) := by rw [← e]; exact Works_any v sh cl t w h hg
theorem Add_is {v : Value} {sh : List Sp} {cl : List Int} {t h x y : Int} {w : World} (hc : CalP w v sh cl) (hg : Good sh cl) (e1 : addCV sh cl t h = x) (e2 : addCE sh cl t h = y) : Calls Tryd.prog 12 #[v, .int .i64 t, .int .i64 h] w (RetNE w x y) := by rw [← e1, ← e2]; exact Add_any v sh cl t h w hc hg
theorem Next_is {v : Value} {sh : List Sp} {cl : List Int} {t x y : Int} {w : World} (hc : CalP w v sh cl) (hg : Good sh cl) (e1 : nextV sh cl t = x) (e2 : nextE sh cl t = y) : Calls Tryd.prog 13 #[v, .int .i64 t] w (RetNE w x y) := by rw [← e1, ← e2]; exact Next_any v sh cl t w hc hg
theorem Between_is {v : Value} {sh : List Sp} {cl : List Int} {f u x : Int} {w : World} (hc : CalP w v sh cl) (hg : Good sh cl) (e : btw sh cl f u = x) : Calls Tryd.prog 11 #[v, .int .i64 f, .int .i64 u] w (Ret w (.int .i64 x)) := by rw [← e]; exact Between_any v sh cl f u w hc hg
theorem Parse_is {s : ByteArray} {x y : Int} {w : World} (hs : s.size ≤ 1000000) (hV : VarsC w) (e1 : parseV s.data.toList = x) (e2 : parseE s.data.toList = y) : Calls Tryd.prog 14 #[.string s] w (RetNE w x y) := by rw [← e1, ← e2]; exact Parse_any s w hs hV
theorem Date_is {t : Int} {l : List UInt8} {w : World} (hV : VarsC w) (e : dateV t = l) : Calls Tryd.prog 15 #[.int .i64 t] w (Ret w (.string ⟨l.toArray⟩)) := by rw [← e]; exact Date_any t w hV

theorem si_e (w : World) : SI ((w.alloc (.cells #[.int .i64 8, .int .i64 16] 42)).alloc (.cells #[.int .i64 7] 3)) (.slice (some ⟨w.heap.size + 1, 0, none⟩) 1 1) eCl := by
  have := si_one (w.alloc (.cells #[.int .i64 8, .int .i64 16] 42)) 7 3
  have e : (w.alloc (.cells #[.int .i64 8, .int .i64 16] 42)).heap.size = w.heap.size + 1 := by simp
  rw [e] at this
  exact this
theorem New_yes {sv cv : Value} {sh : List Sp} {cl : List Int} {w : World} (h1 : SP w sv sh) (h2 : SI w cv cl) (hE : newE sh cl = 0) : Calls Tryd.prog 6 #[sv, cv] w fun e W' => ∃ B, e = .returned (.tuple #[.pointer (some ⟨B, 0, none⟩), .int .i64 0]) ∧ CalP W' (.pointer (some ⟨B, 0, none⟩)) sh cl ∧ Below w.heap.size w W' :=
  (New_any sv cv sh cl w h1 h2).mono fun e W' ⟨v, he, h2, _, hb⟩ => by
    obtain ⟨B, sv', cv', rfl, r⟩ := h2 hE
    exact ⟨B, by rw [he, hE], ⟨B, sv', cv', rfl, r⟩, hb⟩
theorem New_no {sv cv : Value} {sh : List Sp} {cl : List Int} {w : World} {er : Int} (h1 : SP w sv sh) (h2 : SI w cv cl) (hE : newE sh cl = er) (h0 : er ≠ 0) : Calls Tryd.prog 6 #[sv, cv] w fun e W' => e = .returned (.tuple #[.pointer none, .int .i64 er]) ∧ Below w.heap.size w W' :=
  (New_any sv cv sh cl w h1 h2).mono fun e W' ⟨v, he, _, h3, hb⟩ => by
    subst hE
    rw [h3 h0] at he
    exact ⟨he, hb⟩
def eB1 : ByteArray := ⟨#[119, 49, 50, 32, 100, 51, 32, 48, 55, 104]⟩
set_option maxHeartbeats 4000000 in
set_option maxRecDepth 100000 in
theorem awake_any (w : World) (hV : VarsC w) : Calls Tryd.prog 5 #[] w (Ret w (.bool true)) := by
  have HV := Lib.hid hV
  clear hV
  go_enter Tryd.func5, Tryd.ntmps5
  go_wp2_with fail
  refine (New_yes ((sp_e1 w).keep ((Below.refl _ _).alloc (Nat.le_refl _) _)) (si_e w) ea0).mono ?_
  rintro e w1 ⟨B, rfl, hc, hb⟩
  have HC1 := Lib.hid hc
  have HB1 := Lib.hid (ext_trans (below_alloc ((Below.refl w.heap.size w).alloc (Nat.le_refl _) (.cells #[.int .i64 8, .int .i64 16] 42)) (.cells #[.int .i64 7] 3)) hb)
  clear hc hb
  go_wp2_with fail
  refine (New_no (sp_e2 w1) (SI_nil _) ea1 (by decide)).mono ?_
  rintro e w2 ⟨rfl, hb⟩
  have hb2 := ext_trans ((Below.refl w1.heap.size w1).alloc (Nat.le_refl _) (.cells #[.int .i64 8, .int .i64 16, .int .i64 15, .int .i64 20] 42)) hb
  have HC2 := Lib.hid (HC1.out.keep hb2)
  have HB2 := Lib.hid (ext_trans HB1.out hb2)
  clear hb hb2 HC1 HB1
  go_wp2_with fail
  refine (Works_is HC2.out eG ea2).mono ?_
  rintro e w3 ⟨rfl, hb⟩
  have HC3 := Lib.hid (HC2.out.keep hb)
  have HB3 := Lib.hid (ext_trans HB2.out hb)
  clear hb HC2 HB2
  go_wp2_with fail
  refine (Works_is HC3.out eG ea3).mono ?_
  rintro e w4 ⟨rfl, hb⟩
  have HC4 := Lib.hid (HC3.out.keep hb)
  have HB4 := Lib.hid (ext_trans HB3.out hb)
  clear hb HC3 HB3
  go_wp2_with fail
  refine (Works_is HC4.out eG ea4).mono ?_
  rintro e w5 ⟨rfl, hb⟩
  have HC5 := Lib.hid (HC4.out.keep hb)
  have HB5 := Lib.hid (ext_trans HB4.out hb)
  clear hb HC4 HB4
  go_wp2_with fail
  refine (Works_is HC5.out eG ea5).mono ?_
  rintro e w6 ⟨rfl, hb⟩
  have HC6 := Lib.hid (HC5.out.keep hb)
  have HB6 := Lib.hid (ext_trans HB5.out hb)
  clear hb HC5 HB5
  go_wp2_with fail
  refine (Add_is HC6.out eG eb1 eb2).mono ?_
  rintro e w7 ⟨rfl, hb⟩
  have HC7 := Lib.hid (HC6.out.keep hb)
  have HB7 := Lib.hid (ext_trans HB6.out hb)
  clear hb HC6 HB6
  go_wp2_with fail
  refine (Add_is HC7.out eG eb3 eb4).mono ?_
  rintro e w8 ⟨rfl, hb⟩
  have HC8 := Lib.hid (HC7.out.keep hb)
  have HB8 := Lib.hid (ext_trans HB7.out hb)
  clear hb HC7 HB7
  go_wp2_with fail
  refine (Next_is HC8.out eG eb5 eb6).mono ?_
  rintro e w9 ⟨rfl, hb⟩
  have HC9 := Lib.hid (HC8.out.keep hb)
  have HB9 := Lib.hid (ext_trans HB8.out hb)
  clear hb HC8 HB8
  go_wp2_with fail
  refine (Parse_is (by decide) (HV.out.keep HB9.out) eb7 eb8).mono ?_
  rintro e w10 ⟨rfl, hb⟩
  have HC10 := Lib.hid (HC9.out.keep hb)
  have HB10 := Lib.hid (ext_trans HB9.out hb)
  clear hb HC9 HB9
  go_wp2_with fail
  refine (Parse_is (by decide) (HV.out.keep HB10.out) eb9 eb10).mono ?_
  rintro e w11 ⟨rfl, hb⟩
  have HC11 := Lib.hid (HC10.out.keep hb)
  have HB11 := Lib.hid (ext_trans HB10.out hb)
  clear hb HC10 HB10
  go_wp2_with fail
  refine (Add_nil _ _ _).mono ?_
  rintro e w12 ⟨rfl, hb⟩
  have HC12 := Lib.hid (HC11.out.keep hb)
  have HB12 := Lib.hid (ext_trans HB11.out hb)
  clear hb HC11 HB11
  go_wp2_with fail
  refine (Between_is HC12.out eG ea9).mono ?_
  rintro e w13 ⟨rfl, hb⟩
  have HC13 := Lib.hid (HC12.out.keep hb)
  have HB13 := Lib.hid (ext_trans HB12.out hb)
  clear hb HC12 HB12
  go_wp2_with fail
  refine (Date_is (HV.out.keep HB13.out) ed1).mono ?_
  rintro e w14 ⟨rfl, hb⟩
  have HC14 := Lib.hid (HC13.out.keep hb)
  have HB14 := Lib.hid (ext_trans HB13.out hb)
  clear hb HC13 HB13
  go_wp2_with fail
  refine (Date_is (HV.out.keep HB14.out) ed3).mono ?_
  rintro e w15 ⟨rfl, hb⟩
  have HC15 := Lib.hid (HC14.out.keep hb)
  have HB15 := Lib.hid (ext_trans HB14.out hb)
  clear hb HC14 HB14
  go_wp2_with fail
  go_ret
  exact ⟨rfl, HB15.out⟩
end Go.Proofs.YtbjnpiaooehmjaaDoor
