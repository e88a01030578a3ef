/- Contract: Add, walked. -/
import Derived.Test.YtjbegegjpepkjaaDoorTraG
namespace Go.Proofs.YtjbegegjpepkjaaDoor
open Go.RowKit Go.Maps

theorem Add_nil (a b c : ByteArray) (t : Int) (w : World) : Calls Tryd.prog 12 #[.pointer none, .string a, .string b, .string c, .int .i64 t] w fun e w' => e = .returned (.tuple #[.int .u64 0, .int .i64 1]) ∧ w = w' := by
  go_enter Tryd.func12, Tryd.ntmps12
  go_wp2_with fail
  go_ret2
  exact ⟨rfl, rfl⟩

def addH (l : List Lnk) (item frm heat : List UInt8) (tm : Int) : Nat := if addE l item frm heat tm = 0 then (newL l item frm heat tm).hash else 0
def AddR (S : Nat → Prop) (B rb : Nat) (l : List Lnk) (item frm heat : List UInt8) (tm : Int) (w : World) (e : Ending) (w' : World) : Prop :=
  ∃ S', e = .returned (.tuple #[.int .u64 (addH l item frm heat tm), .int .i64 (addE l item frm heat tm)]) ∧ RegS S' B rb (addL l item frm heat tm) w' ∧ (∀ k, S' k → S k ∨ w.heap.size ≤ k) ∧ Out S w w'
theorem addR_no {S : Nat → Prop} {B rb : Nat} {l : List Lnk} {item frm heat : List UInt8} {tm : Int} {w w' : World} {e : Ending} {c : Int} (hc : addE l item frm heat tm = c) (h0 : c ≠ 0) (he : e = .returned (.tuple #[.int .u64 0, .int .i64 c]))
    (hr : RegS S B rb l w) (hb : Below w.heap.size w w') : AddR S B rb l item frm heat tm w e w' := by
  refine ⟨S, ?_, ?_, fun k h => .inl h, Out.of_below hb⟩
  · unfold addH; rw [hc, if_neg h0]; exact he
  · unfold addL; rw [hc, if_neg h0]; exact hr.keep hb
theorem addE_parts {l : List Lnk} {item frm heat : List UInt8} {tm : Int} (h : addE l item frm heat tm = 0) : idB item = true ∧ (frm = [] ∨ idB frm = true) ∧ nameB heat = true ∧ 0 ≤ tm ∧ tm ≤ 1048576 := by
  unfold addE at h
  by_cases h1 : idB item = false ∨ (frm ≠ [] ∧ idB frm = false) ∨ nameB heat = false
  · rw [if_pos h1] at h; omega
  rw [if_neg h1] at h
  by_cases h2 : tm < 0 ∨ 1048576 < tm
  · rw [if_pos h2] at h; omega
  refine ⟨?_, ?_, ?_, by omega, by omega⟩
  · cases e : idB item with
    | true => rfl
    | false => exact absurd (.inl e) h1
  · by_cases hf : frm = []
    · exact .inl hf
    · cases e : idB frm with
      | true => exact .inr rfl
      | false => exact absurd (.inr (.inl ⟨hf, e⟩)) h1
  · cases e : nameB heat with
    | true => rfl
    | false => exact absurd (.inr (.inr e)) h1

set_option maxHeartbeats 4000000 in
set_option maxRecDepth 100000 in
theorem Add_any (S : Nat → Prop) (B rb : Nat) (l : List Lnk) (item frm heat : ByteArray) (tm : Int) (w : World) (h : RegS S B rb l w) (hV : Vars w) (h1 : item.size ≤ maxLen) (h2 : frm.size ≤ maxLen) (h3 : heat.size ≤ maxLen) :
    Calls Tryd.prog 12 #[.pointer (some ⟨rb, 0, none⟩), .string item, .string frm, .string heat, .int .i64 tm] w (AddR S B rb l item.data.toList frm.data.toList heat.data.toList tm w) := by
  have H := Lib.hid h
  have HV := Lib.hid hV
  have H2 := Lib.hid h2
  have HW := Lib.hid (wrong_any B rb l item frm heat tm w h.reg hV h1 h2 h3)
  obtain ⟨c, hc⟩ : ∃ c, addE l item.data.toList frm.data.toList heat.data.toList tm = c := ⟨_, rfl⟩
  rw [hc] at HW
  have HC := Lib.hid hc
  clear h hV h1 h2 h3 hc
  go_enter Tryd.func12, Tryd.ntmps12
  go_wp2_with fail
  refine HW.out.mono ?_
  rintro e w1 ⟨rfl, hb⟩
  have HB1 := Lib.hid hb
  clear hb
  by_cases h0 : c ≠ 0
  · have b1 : (c != 0) = true := by rw [bne_iff_ne]; exact h0
    have b2 : (c == 0) = false := by rw [beq_eq_false_iff_ne]; exact h0
    have H0 := Lib.hid h0
    clear h0
    go_wp2_with fail
    go_ret2
    exact addR_no HC.out H0.out rfl H.out HB1.out
  obtain rfl : c = 0 := Classical.not_not.1 h0
  clear h0
  go_wp2_with fail
  refine (find_org B rb l frm _ (H.out.reg.keep HB1.out) H2.out).mono ?_
  rintro e w2 ⟨sa, sb, sc, st, sg, rfl, hb⟩
  have HB2 := Lib.hid (ext_trans HB1.out hb)
  have ho := orgH_lt H.out.reg frm.data.toList
  obtain ⟨o, hoo⟩ : ∃ o, orgH l frm.data.toList = o := ⟨_, rfl⟩
  rw [hoo] at ho ⊢
  have HO := Lib.hid hoo
  obtain ⟨p1, p2, p3, p4, p5⟩ := addE_parts HC.out
  obtain ⟨n, rfl⟩ : ∃ n : Nat, tm = n := ⟨tm.toNat, by omega⟩
  have q1 := (idB_pos p1).2
  have q2 : frm.data.toList.length ≤ 64 := by rcases p2 with e | e; rw [e]; simp; exact (idB_pos e).2
  have q3 := nameB_len p3
  have hn : n ≤ 1048576 := by omega
  have Q1 := Lib.hid q1
  have Q2 := Lib.hid q2
  have Q3 := Lib.hid q3
  rw [size_data] at q1 q2 q3
  clear hb hoo p1 p2 p3 p4 p5
  have c4 : (w2.alloc (.cells #[.string sa, .string sb, .string sc, .int .i64 st, .int .u64 o] 29)).cell? ⟨w2.heap.size, 4, none⟩ = some (.int .u64 o) := by simp
  have HBW : Hid (Below w.heap.size w (w2.alloc (.cells #[.string sa, .string sb, .string sc, .int .i64 st, .int .u64 o] 29))) := below_alloc HB2.out _
  go_wp2_with fail
  generalize w2.alloc (.cells #[.string sa, .string sb, .string sc, .int .i64 st, .int .u64 o] 29) = W at *
  have HVW := Lib.hid (HV.out.keep HBW.out)
  obtain ⟨d, hd⟩ : ∃ d : ByteArray, ⟨(Lib.decDigits n).toArray⟩ = d := ⟨_, rfl⟩
  obtain ⟨x, hx⟩ : ∃ d : ByteArray, ⟨(hexL o).toArray⟩ = d := ⟨_, rfl⟩
  obtain ⟨T, hT⟩ : ∃ T : ByteArray, bs (linkT item.data.toList frm.data.toList heat.data.toList n o) = T := ⟨_, rfl⟩
  obtain ⟨hv, hhv⟩ : ∃ k : Nat, fnvL T.data.toList = k := ⟨_, rfl⟩
  have HIT : Hid (∀ wz, Below W.heap.size W wz → Calls Tryd.prog 25 #[.int .i64 n] wz fun e w' => e = .returned (.string d) ∧ Below W.heap.size W w') := fun wz hz => by
    rw [← hd]; exact (Itoa_any n wz (by omega) (HVW.out.keep hz)).mono fun e w' ⟨g1, g2⟩ => ⟨g1, ext_trans hz g2⟩
  have HHX : Hid (∀ wz, Below W.heap.size W wz → Calls Tryd.prog 26 #[.int .u64 o] wz fun e w' => e = .returned (.string x) ∧ Below W.heap.size W w') := fun wz hz => by
    rw [← hx]; exact (hex_any o wz ho (HVW.out.keep hz).2.2).mono fun e w' ⟨g1, g2⟩ => ⟨g1, ext_trans hz g2⟩
  have HJN : Hid (∀ wz, Below W.heap.size W wz → Calls Tryd.prog 24 #[.slice (some ⟨wz.heap.size, 0, none⟩) 5 5, .string ⟨#[10]⟩] (wz.alloc (.cells #[.string item, .string frm, .string heat, .string d, .string x] 9)) fun e w' => e = .returned (.string T) ∧ Below W.heap.size W w') := fun wz hz => by
    rw [← hd, ← hx, ← hT]; exact (text_any item frm heat n o wz (by omega) (by omega) (by omega) hn).mono fun e w' ⟨g1, g2⟩ => ⟨g1, ext_trans hz g2⟩
  have HHS : Hid (∀ wz, Below W.heap.size W wz → Calls Tryd.prog 23 #[.string T] wz fun e w' => e = .returned (.int .u64 hv) ∧ Below W.heap.size W w') := fun wz hz => by
    rw [← hhv]
    refine (Hash_any T wz (by rw [← hT, bs_size]; have := linkT_len (a := item.data.toList) (b := frm.data.toList) (c := heat.data.toList) (n := n) (o := o) (by have := Q1.out; omega) (by have := Q2.out; omega) (by have := Q3.out; omega) (by omega); unfold maxLen; omega)).mono ?_
    rintro e w' ⟨g1, rfl⟩; exact ⟨g1, hz⟩
  have HHV : Hid (hv = (newL l item.data.toList frm.data.toList heat.data.toList n).hash) := by
    show hv = fnvL (linkT _ _ _ _ (orgH _ _)); rw [HO.out, ← hhv, ← hT, bs_list]
  clear hd hx hT hhv ho q1 q2 q3
  go_region_held3 (fun w' => w'.cell? ⟨w2.heap.size, 4, none⟩ = some (.int .u64 o))
    (first | exact c4 | exact cell_keep hby c4 | exact cell_keep hbz c4 | exact cell_alloc' (cell_keep hbz c4) _ | exact cell_keep hbu c4 | exact cell_keep hbt c4)
    (first
      | (go_at_call 25; refine (HIT.out _ (by first | exact Below.refl _ _ | exact below_drewN' (Below.refl _ _) _)).mono ?_; rintro e wy ⟨rfl, hby⟩)
      | (go_at_call 26; refine (HHX.out _ hby).mono ?_; rintro e wz ⟨rfl, hbz⟩)
      | (go_at_call 24; refine (HJN.out _ hbz).mono ?_; rintro e wu ⟨rfl, hbu⟩)
      | (go_at_call 23; refine (HHS.out _ hbu).mono ?_; rintro e wt ⟨rfl, hbt⟩))
  have HBT : Hid (Below w.heap.size w wt) := ext_trans HBW.out hbt
  clear HIT HHX HJN HHS hby hbz hbu hbt c4 HVW
  clear HBW HB1 HB2
  obtain ⟨bm, v, D, hr, hS⟩ := H.out.keep HBT.out
  have HR := Lib.hid hr
  have HS := Lib.hid hS
  have c0 := hr.c0
  have c1 := hr.c1
  have hrl := hr.lt
  obtain ⟨a, cap, e1, n1, n2, _⟩ := hr.own.sk
  subst e1
  have hown := hr.mp
  have hkey := keyK (s := item) (by have := Q1.out; rw [size_data] at this; unfold maxLen; omega)
  have hl5 := hr.h5
  clear hr hS
  go_wp2_with fail
  go_still_tail 10, (by kernel_rfl)
  change wpList _ _ _ _ _ wt.drew
  refine wpList_mapUpdate_in _ rfl (.tmp 47) (.tmp 48) (.tmp 53) 47 rfl 9 3 lawK Tryd.underlying47 _ bm l.length D rfl hown.drew (by unfold maxLen; omega) _ _ _ rfl rfl hkey _ [] (plainElem_int Tryd.underlying3 (WalkArith.wf_i64 (by omega))) ?_
  intro w3 hown3 hturn
  have hg3 := hturn.grown
  have own3 := HR.out.own3 hg3
  have blk3 := HR.out.blk3 hg3
  have c3 : w3.cell? ⟨rb, 0, none⟩ = some (.slice a l.length cap) := by rw [cell_of_row w3 rb 0 _ _ _ blk3]; rfl
  have hrl3 : rb < w3.heap.size := (Array.getElem?_eq_some_iff.1 blk3).1
  have hBW : B ≤ w3.heap.size := by have := HR.out.h1; omega
  have HG3 := Lib.hid hg3
  have HM3 := Lib.hid hown3
  have HOW := Lib.hid own3
  have i1 := bs_of item
  have i2 := bs_of frm
  have i3 := bs_of heat
  have hlit := lit_link w3 ⟨item.data.toList, frm.data.toList, heat.data.toList, n, hv⟩
  dsimp only at hlit
  rw [i1, i2, i3] at hlit
  have HLIT := Lib.hid hlit
  clear hlit hg3 hown3 hturn own3 blk3 hown hkey c0 c1 i1 i2 i3
  go_wp2_with (at_builtin; refine wpList_app_link rfl (.tmp 58) (.tmp 65) rfl B _ l rfl (HOW.out.alloc _) w3.heap.size 1 ⟨item.data.toList, frm.data.toList, heat.data.toList, n, hv⟩ rfl HLIT.out (by omega) (by simp; omega) ?_)
  intro va wa hoa hga hat
  obtain ⟨gv, cv, e1⟩ := hoa.form
  subst e1
  have hblka := HR.out.blka HG3.out hga
  have ca : wa.cell? ⟨rb, 0, none⟩ = some (.slice a l.length cap) := by rw [cell_of_row wa rb 0 _ _ _ hblka]; rfl
  have fa : wa.frozen? ⟨rb, 0, none⟩ = false := frozen_of_row wa rb 0 _ _ hblka
  have hvl : hv < 18446744073709551616 := by
    rw [HHV.out]; exact fnvL_lt _
  obtain ⟨r1, r2, r3⟩ := HR.out.added HG3.out HM3.out hga hoa hat HC.out HHV.out ⟨Q1.out, Q2.out, Q3.out, hvl⟩
  have R1 := Lib.hid r1
  have R2 := Lib.hid r2
  have R3 := Lib.hid r3
  clear hblka hga hoa hat r1 r2 r3
  go_wp2_with fail
  go_ret2
  have hnl : (⟨item.data.toList, frm.data.toList, heat.data.toList, n, hv⟩ : Lnk) = newL l item.data.toList frm.data.toList heat.data.toList n := by rw [HHV.out]; rfl
  refine ⟨RB rb bm (.slice (some ⟨gv, 0, none⟩) (l.length + 1) cv), ?_, ?_, fun k hk => ?_, ?_⟩
  · unfold addH; rw [if_pos HC.out, HC.out, ← HHV.out]; rfl
  · unfold addL; rw [if_pos HC.out, ← hnl]; exact R1.out
  · rw [HS.out]; exact (R2.out k hk).imp id fun h => Nat.le_trans HBT.out.size h
  · rw [HS.out]
    exact (Out.of_below HBT.out).trans R3.out (fun k hk => .inl hk)
end Go.Proofs.YtjbegegjpepkjaaDoor
