/- Contract: the example of trace's laws. -/
import Derived.Test.YtjbegegjpepkjaaDoorTraP
namespace Go.Proofs.YtjbegegjpepkjaaDoor
open Go.RowKit Go.Maps

def eS1 : List UInt8 := [83, 49]
def eP1 : List UInt8 := [80, 49]
def eP2 : List UInt8 := [80, 50]
def eH7 : List UInt8 := [72, 55]
def eH8 : List UInt8 := [72, 56]
def eX (a : Nat) : Lnk := ⟨eS1, [], eH7, 5, a⟩
def eY (b : Nat) : Lnk := ⟨eP1, eS1, eH7, 8, b⟩
theorem ex1 : addE [] eS1 [] eH7 5 = 0 := by decide
theorem ex2 (a : Nat) : addE [eX a] eP1 eS1 eH7 8 = 0 := rfl
theorem ex3 (a b : Nat) : addE [eX a, eY b] eP2 eS1 eH8 9 = 31 := rfl
theorem ex4 (a b : Nat) : fnd [eX a, eY b] eP1 = some (eY b) := rfl
theorem ex5 (a b : Nat) : orgF [eX a, eY b] (eY b) = [eY b, eX a] := rfl
theorem Add_yes (S : Nat → Prop) (B rb : Nat) (l : List Lnk) (item frm heat : ByteArray) (tm : Int) (w : World) (h : RegS S B rb l w) (hV : Vars w) (h1 : item.size ≤ maxLen) (h2 : frm.size ≤ maxLen) (h3 : heat.size ≤ maxLen) (he : addE l item.data.toList frm.data.toList heat.data.toList tm = 0) :
    Calls Tryd.prog 12 #[.pointer (some ⟨rb, 0, none⟩), .string item, .string frm, .string heat, .int .i64 tm] w fun e w' => ∃ (S' : Nat → Prop) (a : Nat), e = .returned (.tuple #[.int .u64 a, .int .i64 0]) ∧ a = (newL l item.data.toList frm.data.toList heat.data.toList tm).hash ∧ RegS S' B rb (l ++ [newL l item.data.toList frm.data.toList heat.data.toList tm]) w' ∧ (∀ k, S' k → S k ∨ w.heap.size ≤ k) ∧ Out S w w' := by
  refine (Add_any S B rb l item frm heat tm w h hV h1 h2 h3).mono ?_
  rintro e w' ⟨S', rfl, hr, hS, ho⟩
  refine ⟨S', _, ?_, rfl, ?_, hS, ho⟩
  · unfold addH; rw [if_pos he, he]
  · unfold addL at hr; rw [if_pos he] at hr; exact hr
theorem Add_no (S : Nat → Prop) (B rb : Nat) (l : List Lnk) (item frm heat : ByteArray) (tm c : Int) (w : World) (h : RegS S B rb l w) (hV : Vars w) (h1 : item.size ≤ maxLen) (h2 : frm.size ≤ maxLen) (h3 : heat.size ≤ maxLen) (he : addE l item.data.toList frm.data.toList heat.data.toList tm = c) (hc : c ≠ 0) :
    Calls Tryd.prog 12 #[.pointer (some ⟨rb, 0, none⟩), .string item, .string frm, .string heat, .int .i64 tm] w fun e w' => ∃ S', e = .returned (.tuple #[.int .u64 0, .int .i64 c]) ∧ RegS S' B rb l w' ∧ (∀ k, S' k → S k ∨ w.heap.size ≤ k) ∧ Out S w w' := by
  refine (Add_any S B rb l item frm heat tm w h hV h1 h2 h3).mono ?_
  rintro e w' ⟨S', rfl, hr, hS, ho⟩
  refine ⟨S', ?_, ?_, hS, ho⟩
  · unfold addH; rw [he, if_neg hc]; rfl
  · unfold addL at hr; rw [he, if_neg hc] at hr; exact hr
theorem lit2 (w : World) (y z : Lnk) : SK (w.alloc (.cells #[.string (bs y.item), .string (bs y.frm), .string (bs y.heat), .int .i64 y.tm, .int .u64 y.hash, .string (bs z.item), .string (bs z.frm), .string (bs z.heat), .int .i64 z.tm, .int .u64 z.hash] 29)) (.slice (some ⟨w.heap.size, 0, none⟩) 2 2) [y, z] :=
  OwnK.sk (B := 0) ⟨rfl, .inr ⟨w.heap.size, 2, _, rfl, Nat.zero_le _, (MapKept.heap_alloc w _).1, Nat.le_refl _, by unfold maxLen; omega, rfl, rfl⟩⟩
theorem small2 (a b : UInt8) : (⟨#[a, b]⟩ : ByteArray).size ≤ maxLen := by show 2 ≤ maxLen; unfold maxLen; omega
theorem small0 : (⟨#[]⟩ : ByteArray).size ≤ maxLen := by show 0 ≤ maxLen; unfold maxLen; omega

set_option maxHeartbeats 4000000 in
set_option maxRecDepth 100000 in
theorem alive30_any (w : World) (hV : Vars w) : Calls Tryd.prog 10 #[] w (Ret w (.bool true)) := by
  have HV := Lib.hid hV
  clear hV
  go_enter Tryd.func10, Tryd.ntmps10
  go_wp2_with fail
  refine (New_any _).mono ?_
  rintro e w1 ⟨rb, rfl, ⟨bm, vr, D, hreg⟩, hb⟩
  have HB1 := Lib.hid hb
  have HR1 : Hid (RegS (RB rb bm vr) w.heap.size rb [] w1) := ⟨bm, vr, D, hreg, rfl⟩
  clear hreg hb
  generalize RB rb bm vr = S1 at *
  go_wp2_with fail
  refine (Add_yes S1 w.heap.size rb [] ⟨#[83, 49]⟩ ⟨#[]⟩ ⟨#[72, 55]⟩ 5 w1 HR1.out (HV.out.keep HB1.out) (small2 _ _) small0 (small2 _ _) ex1).mono ?_
  rintro e w2 ⟨S2, a, rfl, ha, hr2, hs2, ho2⟩
  have HB2 : Hid (Below w.heap.size w w2) := HB1.out.trans (ho2.base (fun k hk => (HR1.out.lt k hk).1) HB1.out.size)
  have HR2 : Hid (RegS S2 w.heap.size rb [eX a] w2) := by
    have e : eX a = newL [] eS1 [] eH7 5 := by rw [ha]; rfl
    rw [e]; exact hr2
  have HXA : Hid (Reg [eX a]) := by
    have e : eX a = newL [] eS1 [] eH7 5 := by rw [ha]; rfl
    have := Reg.nil.snoc (x := eX a) ex1 (by rw [ha]; rfl)
    exact this
  clear ha hr2 hs2 ho2
  go_wp2_with fail
  refine (Add_yes S2 w.heap.size rb [eX a] ⟨#[80, 49]⟩ ⟨#[83, 49]⟩ ⟨#[72, 55]⟩ 8 w2 HR2.out (HV.out.keep HB2.out) (small2 _ _) (small2 _ _) (small2 _ _) (ex2 a)).mono ?_
  rintro e w3 ⟨S3, b, rfl, hb, hr3, hs3, ho3⟩
  have HB3 : Hid (Below w.heap.size w w3) := HB2.out.trans (ho3.base (fun k hk => (HR2.out.lt k hk).1) HB2.out.size)
  have HR3 : Hid (RegS S3 w.heap.size rb [eX a, eY b] w3) := by
    have e : eY b = newL [eX a] eP1 eS1 eH7 8 := by rw [hb]; rfl
    rw [e]; exact hr3
  have HYB : Hid (checkL [eX a, eY b] = 0) := (HXA.out.snoc (x := eY b) (ex2 a) (by rw [hb]; rfl)).check
  clear hb hr3 hs3 ho3
  go_wp2_with fail
  refine (Add_no S3 w.heap.size rb [eX a, eY b] ⟨#[80, 50]⟩ ⟨#[83, 49]⟩ ⟨#[72, 56]⟩ 9 31 w3 HR3.out (HV.out.keep HB3.out) (small2 _ _) (small2 _ _) (small2 _ _) (ex3 a b) (by decide)).mono ?_
  rintro e w4 ⟨S4, rfl, hr4, hs4, ho4⟩
  have HB4 : Hid (Below w.heap.size w w4) := HB3.out.trans (ho4.base (fun k hk => (HR3.out.lt k hk).1) HB3.out.size)
  have HR4 := Lib.hid hr4
  clear hr4 hs4 ho4
  go_wp2_with fail
  refine (Heat_yes w.heap.size rb [eX a, eY b] ⟨#[80, 49]⟩ w4 HR4.out.reg (small2 _ _) (eY b) (ex4 a b)).mono ?_
  rintro e w5 ⟨rfl, hb⟩
  have HB5 : Hid (Below w.heap.size w w5) := HB4.out.trans (hb.mono HB4.out.size)
  have HR5 := Lib.hid (HR4.out.keep hb)
  have hbs : bs (eY b).heat = ⟨#[72, 55]⟩ := rfl
  rw [hbs]
  clear hb hbs
  go_wp2_with fail
  refine (Origin_yes w.heap.size rb [eX a, eY b] ⟨#[80, 49]⟩ w5 HR5.out.reg (small2 _ _) (eY b) (ex4 a b)).mono ?_
  rintro e w6 ⟨vo, rfl, ho, hb⟩
  rw [ex5] at ho
  have HB6 : Hid (Below w.heap.size w w6) := HB5.out.trans (hb.mono HB5.out.size)
  have HR6 := Lib.hid (HR5.out.keep hb)
  obtain ⟨ob, on, oc, eo, _⟩ := ho.shape
  subst eo
  have HO := Lib.hid ho
  clear hb ho
  go_wp2_with fail
  have hlit := lit2 w6 (eY b) (eX a)
  have hsame := rSameK_any _ _ [eY b, eX a] [eY b, eX a] _ (HO.out.sk.keep ((Below.refl w6.heap.size w6).alloc (Nat.le_refl _) (.cells #[.string ⟨#[80, 49]⟩, .string ⟨#[83, 49]⟩, .string ⟨#[72, 55]⟩, .int .i64 8, .int .u64 b, .string ⟨#[83, 49]⟩, .string ⟨#[]⟩, .string ⟨#[72, 55]⟩, .int .i64 5, .int .u64 a] 29))) hlit
  rw [show decide ([eY b, eX a] = [eY b, eX a]) = true from decide_eq_true rfl] at hsame
  refine hsame.mono ?_
  rintro e w7 ⟨rfl, m7, rfl⟩
  have hb7 : Below w6.heap.size w6 ((w6.alloc (.cells #[.string ⟨#[80, 49]⟩, .string ⟨#[83, 49]⟩, .string ⟨#[72, 55]⟩, .int .i64 8, .int .u64 b, .string ⟨#[83, 49]⟩, .string ⟨#[]⟩, .string ⟨#[72, 55]⟩, .int .i64 5, .int .u64 a] 29)).drewN m7) := below_drewN' ((Below.refl _ _).alloc (Nat.le_refl _) _) _
  have HB7 := Lib.hid (HB6.out.trans (hb7.mono HB6.out.size))
  have HR7 := Lib.hid (HR6.out.keep hb7)
  clear hb7 hlit hsame
  generalize ((w6.alloc (.cells #[.string ⟨#[80, 49]⟩, .string ⟨#[83, 49]⟩, .string ⟨#[72, 55]⟩, .int .i64 8, .int .u64 b, .string ⟨#[83, 49]⟩, .string ⟨#[]⟩, .string ⟨#[72, 55]⟩, .int .i64 5, .int .u64 a] 29)).drewN m7) = w7 at *
  go_wp2_with fail
  refine (Links_any w.heap.size rb [eX a, eY b] w7 HR7.out.reg).mono ?_
  rintro e w8 ⟨v8, rfl, ho8, hb8⟩
  obtain ⟨lb, lc, e8⟩ : ∃ b c, v8 = .slice b 2 c := by obtain ⟨a, c, e, _⟩ := ho8.sk; exact ⟨_, _, e⟩
  subst e8
  have HB8 := Lib.hid (HB7.out.trans (hb8.mono HB7.out.size))
  have HR8 := Lib.hid (HR7.out.keep hb8)
  clear ho8 hb8
  go_wp2_with fail
  refine (Links_any w.heap.size rb [eX a, eY b] w8 HR8.out.reg).mono ?_
  rintro e w9 ⟨v9, rfl, ho9, hb9⟩
  obtain ⟨lb9, lc9, e9⟩ : ∃ b c, v9 = .slice b 2 c := by obtain ⟨a, c, e, _⟩ := ho9.sk; exact ⟨_, _, e⟩
  subst e9
  have HB9 := Lib.hid (HB8.out.trans (hb9.mono HB8.out.size))
  have HO9 := Lib.hid ho9.sk
  have HSZ : Hid (Sized [eX a, eY b]) := by
    obtain ⟨_, _, _, hr⟩ := HR8.out.reg
    intro x hx
    have := hr.h6 x hx
    omega
  clear ho9 hb9
  go_wp2_with fail
  have hck := Check_any _ [eX a, eY b] w9 HO9.out (HV.out.keep HB9.out) (by simp) HSZ.out
  rw [HYB.out] at hck
  refine hck.mono ?_
  rintro e w10 ⟨rfl, hb10⟩
  have HB10 := Lib.hid (HB9.out.trans (hb10.mono HB9.out.size))
  clear hck hb10
  go_wp2_with fail
  go_ret
  exact ⟨rfl, HB10.out⟩
end Go.Proofs.YtjbegegjpepkjaaDoor
