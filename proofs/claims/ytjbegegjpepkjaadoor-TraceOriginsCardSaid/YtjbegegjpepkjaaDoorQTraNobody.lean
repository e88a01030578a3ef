/- The laws of trace: TraceNobody, TraceChecks. -/
import Derived.Test.YtjbegegjpepkjaaDoorTraQ
namespace Go.Proofs.YtjbegegjpepkjaaDoor
open Go.RowKit Go.Maps

/-- an argument that reads as links -/
def ArgK (w : World) (v : Value) (l : List Lnk) : Prop := SK w v l ∧ (v = .slice none 0 0 ∨ ∃ ad n c, v = .slice (some ad) n c) ∧ ∀ x ∈ l, x.item.length ≤ maxLen ∧ x.frm.length ≤ maxLen ∧ x.heat.length ≤ maxLen ∧ x.hash < 18446744073709551616
theorem ArgK.sized {w : World} {v : Value} {l : List Lnk} (h : ArgK w v l) (g : greatB l = false) : l.length ≤ 40 ∧ Sized l := by
  obtain ⟨g1, g2⟩ := greatB_not g
  exact ⟨g1, fun x hx => by have := g2 x hx; have := (h.2.2 x hx).2.2.2; omega⟩
theorem ArgK.keep {w w' : World} {v : Value} {l : List Lnk} (h : ArgK w v l) (hb : Below w.heap.size w w') : ArgK w' v l := ⟨h.1.keep hb, h.2⟩
theorem ArgK.great {w : World} {v : Value} {l : List Lnk} (h : ArgK w v l) : Calls Tryd.prog 9 #[v] w fun e w' => e = .returned (.bool (greatB l)) ∧ w = w' :=
  great_any v l w h.1 fun x hx => by have := h.2.2 x hx; exact ⟨this.1, this.2.1, this.2.2.1⟩

theorem Nobody_any (a b : ByteArray) (t : Int) (w : World) (hV : Vars w) (ha : a.size ≤ maxLen) (hb : b.size ≤ maxLen) : Calls Tryd.prog 8 #[.string a, .string b, .int .i64 t] w (Ret w (.bool true)) := by
  have HV := Lib.hid hV
  clear hV
  unfold maxLen at ha hb
  by_cases h1 : 200 < a.size
  · have b1 : decide ((200 : Int) < a.size) = true := by rw [decide_eq_true_eq]; omega
    go_enter Tryd.func8, Tryd.ntmps8
    go_wp2_with fail
    refine (alive30_any _ HV.out).mono ?_
    rintro e w1 ⟨rfl, hb1⟩
    have HB1 := Lib.hid hb1
    clear hb1
    go_wp2_with fail
    go_ret
    exact ⟨rfl, HB1.out⟩
  have b1 : decide ((200 : Int) < a.size) = false := by rw [decide_eq_false_iff_not]; omega
  by_cases h2 : 200 < b.size
  · have b2 : decide ((200 : Int) < b.size) = true := by rw [decide_eq_true_eq]; omega
    go_enter Tryd.func8, Tryd.ntmps8
    go_wp2_with fail
    refine (alive30_any _ HV.out).mono ?_
    rintro e w1 ⟨rfl, hb1⟩
    have HB1 := Lib.hid hb1
    clear hb1
    go_wp2_with fail
    go_ret
    exact ⟨rfl, HB1.out⟩
  have b2 : decide ((200 : Int) < b.size) = false := by rw [decide_eq_false_iff_not]; omega
  go_enter Tryd.func8, Tryd.ntmps8
  go_wp2_with fail
  refine (Add_nil a b ⟨#[72]⟩ t _).mono ?_
  rintro e w1 ⟨rfl, rfl⟩
  go_wp2_with fail
  refine (Heat_nil a _).mono ?_
  rintro e w1 ⟨rfl, rfl⟩
  go_wp2_with fail
  refine (Origin_nil a _).mono ?_
  rintro e w1 ⟨rfl, rfl⟩
  go_wp2_with fail
  refine (Links_nil _).mono ?_
  rintro e w1 ⟨rfl, rfl⟩
  go_wp2_with fail
  refine (alive30_any _ HV.out).mono ?_
  rintro e w1 ⟨rfl, hb1⟩
  have HB1 := Lib.hid hb1
  clear hb1
  go_wp2_with fail
  go_ret
  exact ⟨rfl, HB1.out⟩

theorem Checks_any (v : Value) (l : List Lnk) (w : World) (hV : Vars w) (h : ArgK w v l) : Calls Tryd.prog 5 #[v] w (Ret w (.bool true)) := by
  have HV := Lib.hid hV
  have H := Lib.hid h
  obtain ⟨a, cap, rfl, n1, n2, _⟩ := h.1
  clear hV h
  go_enter Tryd.func5, Tryd.ntmps5
  go_wp2_with fail
  refine H.out.great.mono ?_
  rintro e w1 ⟨rfl, rfl⟩
  cases hg : greatB l
  rotate_left
  · clear hg
    go_wp2_with fail
    refine (alive30_any _ HV.out).mono ?_
    rintro e w1 ⟨rfl, hb1⟩
    have HB1 := Lib.hid hb1
    clear hb1
    go_wp2_with fail
    go_ret
    exact ⟨rfl, HB1.out⟩
  obtain ⟨h40, hsz⟩ := H.out.sized hg
  have HSZ := Lib.hid hsz
  have HC1 := Lib.hid (Check_any _ l _ H.out.1 HV.out (by omega) HSZ.out)
  have HC2 : Hid (∀ W, Below w.heap.size w W → Calls Tryd.prog 20 #[.slice a l.length cap] W (Ret W (.int .i64 (checkL l)))) := fun W hW => rCheck_any _ l _ (H.out.1.keep hW) (by omega) HSZ.out
  clear hg hsz
  generalize checkL l = c at *
  go_wp2_with fail
  refine HC1.out.mono ?_
  rintro e w1 ⟨rfl, hb1⟩
  have HB1 := Lib.hid hb1
  clear hb1
  go_wp2_with fail
  refine (HC2.out _ HB1.out).mono ?_
  rintro e w2 ⟨rfl, hb1⟩
  have HB2 := Lib.hid (ext_trans HB1.out hb1)
  clear hb1
  go_wp2_with fail
  refine (alive30_any _ (HV.out.keep HB2.out)).mono ?_
  rintro e w3 ⟨rfl, hb1⟩
  have HB3 := Lib.hid (ext_trans HB2.out hb1)
  clear hb1
  go_wp2_with fail
  go_ret
  exact ⟨rfl, HB3.out⟩
end Go.Proofs.YtjbegegjpepkjaaDoor
