/- The frame of rows whose program has laid variables: a wrap that hands the contract what the row lays and the world's shape; arguments opened: structs, slices of structs, numbers. -/
import Derived.Test.YtfmhickjefogdaaGreatPk19
import Derived.Test.YtfmhickjefogdaaGreatPk00
import Derived.Test.YtfmhickjefogdaaGreatRows
import Derived.ProofKit
import Derived.OpenShut
import Derived.ChangeOld
import Derived.Below
import Derived.Carry
import Derived.ChangeMaps5
import Derived.SliceStrings
import Derived.LaidMore
import Derived.Lay
import Derived.SevenTiedAt
import Derived.Stop.Joined
import Derived.HandedShaped
import Derived.Shelf.Vars
import Derived.Deep.Slices
import Derived.ChangeArms
import Derived.LaidSub
import Derived.Lib.LaidTab
import Derived.Stop.LaidErr
set_option linter.unusedSimpArgs false
set_option linter.unusedVariables false

/- remnant.Of (printed by wip/gen_rej.py). -/
namespace Go.Proofs.YtfmhickjefogdaaGreat
open Go.RowKit

/-- a sheet's cells -/
def shtB (id gr he : ByteArray) (t l w : Int) : Array Value := #[.string id, .string gr, .int .i64 t, .int .i64 l, .int .i64 w, .string he]
def shtZ : Array Value := shtB ⟨#[]⟩ ⟨#[]⟩ ⟨#[]⟩ 0 0 0
theorem info_Sheet : (Tryz.prog.info? 26).map (·.size) = some 6 := by kernel_rfl
theorem sht_one (id gr he : ByteArray) (t l w : Int) : (shtB id gr he t l w).all (·.oneCell') = true := by simp [shtB, Value.oneCell']
theorem load_Sheet {w : World} {g : Nat} {id gr he : ByteArray} {t l q : Int} {e : TypeId} (h : ObjAt w g (shtB id gr he t l q) e) : (loadVar 26 ⟨g, 0, none⟩).run Tryz.prog w = .ok (.agg (shtB id gr he t l q)) w := run_loadVar_row (P := Tryz.prog) w g e 26 (shtB id gr he t l q) (0, 0) _ h Tryz.underlying26 rfl info_Sheet
theorem boxOf (w : World) (nm : List UInt8) (gp : Int) (sa : Option Addr) (sn sc : Nat) (id gr he : ByteArray) (t l q : Int) : ∃ W1, Hid (ObjAt W1 w.heap.size (shtB id gr he t l q) 26) ∧ Hid (ObjAt W1 (w.heap.size + 1) #[.string (bs nm), .int .i64 gp, .slice sa sn sc] 24) ∧ Hid (ObjAt W1 (w.heap.size + 1 + 1) shtZ 26) ∧ Hid (Below w.heap.size w W1) ∧
    Hid (((w.alloc (.cells #[.string id, .string gr, .int .i64 t, .int .i64 l, .int .i64 q, .string he] 26)).alloc (.cells #[.string (bs nm), .int .i64 gp, .slice sa sn sc] 24)).alloc (.cells #[.string ⟨#[]⟩, .string ⟨#[]⟩, .int .i64 0, .int .i64 0, .int .i64 0, .string ⟨#[]⟩] 26) = W1) := by
  refine ⟨_, ?_, ?_, ?_, ?_, rfl⟩
  · exact ((ObjAt.new w (shtB id gr he t l q) 26).alloc _).alloc _
  · have h := ObjAt.new (w.alloc (.cells (shtB id gr he t l q) 26)) #[.string (bs nm), .int .i64 gp, .slice sa sn sc] 24
    rw [size_alloc] at h
    exact h.alloc _
  · have h := ObjAt.new ((w.alloc (.cells (shtB id gr he t l q) 26)).alloc (.cells #[.string (bs nm), .int .i64 gp, .slice sa sn sc] 24)) shtZ 26
    rw [size_alloc, size_alloc] at h
    exact h
  · exact (((Below.refl _ _).alloc (Nat.le_refl _) _).alloc (by simp) _).alloc (by simp; omega) _
/-- what Of says of the largest rectangle -/
def RetOf (L W : Int) (tk : List Rct) (he : ByteArray) (w : World) (e : Ending) (w' : World) : Prop := ∃ id g h t l q r ok, e = .returned (.tuple #[.agg (shtB id g h t l q), .bool ok]) ∧ LgR L W tk r ok ∧ (ok = true → h = he ∧ l = max (r.x1 - r.x0) (r.y1 - r.y0) ∧ q = min (r.x1 - r.x0) (r.y1 - r.y0)) ∧ Below w.heap.size w w'
theorem LgR.plR {L W : Int} {tk : List Rct} {r : Rct} {ok : Bool} (h : LgR L W tk r ok) (h1 : L ≤ 32768) (h2 : W ≤ 32768) : PlR r := by
  rcases h with ⟨_, rfl, _⟩ | ⟨_, h, _⟩
  · unfold PlR; dsimp only; omega
  · exact h.plR h1 h2
theorem LgR.pos {L W : Int} {tk : List Rct} {r : Rct} (h : LgR L W tk r true) : 1 ≤ r.x1 - r.x0 ∧ 1 ≤ r.y1 - r.y0 := by
  rcases h with ⟨e, _⟩ | ⟨_, h, _⟩
  · cases e
  · have := h.plate; omega
set_option maxRecDepth 100000 in
set_option maxHeartbeats 4000000 in
theorem eOf_any (id gr he : ByteArray) (t L W : Int) (nm : List UInt8) (gp : Int) (sv pv : Value) (S : List Spo) (P : List Prt) (w : World) (hs : SSo w sv S) (hp : SPr w pv P) (ho : ∀ i, i < P.length → PrtOK w (pri P i)) (hS : S.length ≤ 32) (hP : P.length ≤ 100000) (hr : ∀ k, k < S.length → SpotR P L W gp (soi S k)) (hpl : PlIn L W gp (tkB P S)) (hid : id.size ≤ 1000000000000000000) :
    Calls Tryz.prog 8 #[.agg (shtB id gr he t L W), .agg #[.string (bs nm), .int .i64 gp, sv], pv, .int .i64 1] w (RetOf L W (tkE gp (tkB P S)) he w) := by
  have HSS := Lib.hid hs
  have HPP := Lib.hid hp
  have HPO := Lib.hid ho
  have HRR := Lib.hid hr
  have HPL := Lib.hid hP
  have HPI := Lib.hid hpl
  obtain ⟨sa, sc, rfl, _⟩ := hs
  obtain ⟨pa, pq, rfl, _⟩ := hp
  clear ho hr hP hpl
  obtain ⟨W1, H41, H51, H81, HB1, HW1⟩ := boxOf w nm gp sa S.length sc id gr he t L W
  unfold shtB
  go_enter Tryz.func8, Tryz.ntmps8
  go_upto_region 1 with fail
  rw [HW1.out]
  clear HW1
  refine wp_region_ep 2 gmT gmT_ok [⟨w.heap.size + 1, 0, (#[.string (bs nm), .int .i64 gp, .slice sa S.length sc] : Array Value).toList⟩] (fun v => v = W1) [(5, 0)] [] [(16, .agg #[.string (bs nm), .int .i64 gp, .slice sa S.length sc]), (17, .slice pa P.length pq)] (by kernel_rfl) rfl
    (obsC (fun u hu => by cases hu; exact range_new H51.out) obsN) ⟨rfl, trivial⟩ ?_
  conv => whnf
  refine And.intro (Nat.le_of_ble_eq_true rfl) ?_
  conv => whnf
  intro f1
  conv => whnf
  refine And.intro (rfl) ?_
  conv => whnf
  refine And.intro (rfl) ?_
  conv => whnf
  intro _ he
  cases he
  change wpList Tryz.prog _ _ [_, _, _, _, _, _] _ _
  go_wp2_with fail
  refine (eTaken_any nm gp _ _ S P L W W1 (HSS.out.keep HB1.out) (HPP.out.keep HB1.out) (fun i hi => (HPO.out i hi).keep HB1.out) hS HPL.out HRR.out).mono ?_
  rintro e w2 ⟨v2, rfl, hs2, hb2⟩
  have HB2 := Lib.hid (ext_trans HB1.out hb2)
  have H42 := Lib.hid (H41.out.keep hb2)
  have H52 := Lib.hid (H51.out.keep hb2)
  have H82 := Lib.hid (H81.out.keep hb2)
  have HT2 := Lib.hid hs2
  clear hb2 HSS HPP HPO HRR HPL H41 H51 H81 HB1
  obtain ⟨ta, tc, rfl, _⟩ := hs2
  have q3 := H42.out.cell 3
  have q4 := H42.out.cell 4
  have q5 := H52.out.cell 1
  simp only [shtB] at q3 q4
  dsimp at q3 q4 q5
  go_wp2_with fail
  refine (eLargest_any L W gp _ (tkB P S) w2 HT2.out HPI.out).mono ?_
  rintro e w3 ⟨r, ok, rfl, hlg, hb3⟩
  have HB3' := Lib.hid (ext_trans HB2.out hb3)
  have H43' := Lib.hid (H42.out.keep hb3)
  have H83' := Lib.hid (H82.out.keep hb3)
  have HLG := Lib.hid hlg
  have hpr := hlg.plR HPI.out.l1 HPI.out.w1
  unfold PlR at hpr
  clear hb3 hlg q3 q4 q5 HB2 H42 H52 H82 HT2 HPI
  obtain ⟨W4, HR4, HB4', HW4⟩ := newObj w3 (rcA r) 39
  have HB4 := Lib.hid (ext_trans HB3'.out HB4'.out)
  have H44 := Lib.hid (H43'.out.keep HB4'.out)
  have H84 := Lib.hid (H83'.out.keep HB4'.out)
  obtain ⟨bq, hbq⟩ : ∃ b, w3.heap.size = b := ⟨_, rfl⟩
  rw [hbq] at HR4
  unfold rcV
  go_upto_region 5 with fail
  rw [show w3.alloc (.cells #[.int .i64 r.x0, .int .i64 r.y0, .int .i64 r.x1, .int .i64 r.y1] 39) = W4 from HW4.out]
  clear hbq HW4 HB4' HB3' H43' H83'
  have w0 : IntKind.i64.wrap (r.x1 - r.x0) = r.x1 - r.x0 := IntWalk.i64_in _ (by omega)
  have w1 : IntKind.i64.wrap (r.y1 - r.y0) = r.y1 - r.y0 := IntWalk.i64_in _ (by omega)
  refine wp_region_ev gmT gmT_ok [⟨bq, 0, (rcA r).toList⟩] (Below W4.heap.size W4) [(12, 0)] [] [(13, .int .i64 (r.x1 - r.x0)), (14, .int .i64 (r.y1 - r.y0))] (by kernel_rfl) mixed (by kernel_rfl) ((Below.refl _ _).drew)
    (obsC (fun u hu => rangeKeep (range_new HR4.out) hu) obsN) ⟨rfl, trivial⟩ ?_
  conv => whnf
  intro f5
  conv => whnf
  refine And.intro (congrArg (Value.int .i64) w0) ?_
  conv => whnf
  refine And.intro (congrArg (Value.int .i64) w1) ?_
  conv => whnf
  intro w5 h5
  have HB5 := Lib.hid (ext_trans HB4.out h5)
  have H45 := Lib.hid (H44.out.keep h5)
  have H85 := Lib.hid (H84.out.keep h5)
  clear h5 HB4 H44 H84 HR4 hpr w0 w1
  have HPOS : Hid (ok = true → 1 ≤ r.x1 - r.x0 ∧ 1 ≤ r.y1 - r.y0) := fun e => by have := HLG.out; rw [e] at this; exact this.pos
  have HA : Hid (∃ A B, A = r.x1 - r.x0 ∧ B = r.y1 - r.y0) := ⟨_, _, rfl, rfl⟩
  obtain ⟨A, B, hA, hB⟩ := HA.out
  have HAE := Lib.hid hA
  have HBE := Lib.hid hB
  rw [← hA, ← hB] at HPOS ⊢
  clear HA hA hB
  go_upto_region 6 with fail
  refine wp_region_et gmT gmT_ok [] (Below w5.heap.size w5) [] [] [(57, .bool (!ok || decide (min A B < 1)))] (by kernel_rfl) (Below.refl _ _)
    obsN trivial ?_
  conv => whnf
  intro f6
  conv => whnf
  refine And.intro (rfl) ?_
  conv => whnf
  intro w6 h6
  have HB6 := Lib.hid (ext_trans HB5.out h6)
  have H46 := Lib.hid (H45.out.keep h6)
  have H86 := Lib.hid (H85.out.keep h6)
  clear h6 HB5 H45 H85
  have hcv : (!ok || decide (min A B < 1)) = !ok := by
    cases ok
    · rfl
    · have h1 := (HPOS.out rfl).1
      have h2 := (HPOS.out rfl).2
      rw [decide_eq_false (show ¬ min A B < 1 by omega)]; rfl
  rw [hcv]
  clear hcv
  cases ok
  · clear HPOS
    rw [show (!false) = true from rfl]
    go_upto_region 7 with fail
    refine wp_region_ep 1 gmT gmT_ok [⟨w.heap.size + 1 + 1, 0, shtZ.toList⟩] (fun v => v = w6) [(8, 0)] [] [(58, .agg shtZ)] (by kernel_rfl) rfl
      (obsC (fun u hu => by cases hu; exact range_new H86.out) obsN) ⟨rfl, trivial⟩ ?_
    conv => whnf
    refine And.intro (Nat.le_of_ble_eq_true rfl) ?_
    conv => whnf
    intro f7
    conv => whnf
    refine And.intro (rfl) ?_
    conv => whnf
    intro _ he
    cases he
    change wpList Tryz.prog _ _ [_, _] _ _
    refine wpList_store_row (o := ⟨none, .store _ _ _, _, _, _, _⟩) rfl 26 (.tmp 8) (.tmp 58) rfl (w.heap.size + 1 + 1) shtZ ?_ ?_ 26 _ H86.out info_Sheet rfl (sht_one _ _ _ _ _ _) ?_
    · rfl
    · rfl
    have HL := Lib.hid (load_Sheet (setRow_heap _ _ _ shtZ _ _ H86.out))
    have HBF := Lib.hid (below_setRow HB6.out (show w.heap.size ≤ w.heap.size + 1 + 1 by omega) shtZ)
    go_wp2_with fail
    refine bodyPost_ret (results_two' Tryz.results8 rfl rfl HL.out) rfl ?_
    exact ⟨_, _, _, _, _, _, r, false, rfl, HLG.out, fun e => (by cases e), HBF.out⟩
  · clear HPOS
    rw [show (!true) = false from rfl]
    go_upto_region 8 with fail
    refine wp_region_ep 1 gmT gmT_ok [⟨w.heap.size, 0, (shtB id gr he t L W).toList⟩] (fun v => v = w6) [(4, 0)] [] [(59, .agg (shtB id gr he t L W))] (by kernel_rfl) rfl
      (obsC (fun u hu => by cases hu; exact range_new H46.out) obsN) ⟨rfl, trivial⟩ ?_
    conv => whnf
    refine And.intro (Nat.le_of_ble_eq_true rfl) ?_
    conv => whnf
    intro f8
    conv => whnf
    refine And.intro (rfl) ?_
    conv => whnf
    intro _ he
    cases he
    change wpList Tryz.prog _ _ [_] _ _
    refine wpList_store_row (o := ⟨none, .store _ _ _, _, _, _, _⟩) rfl 26 (.tmp 8) (.tmp 59) rfl (w.heap.size + 1 + 1) (shtB id gr he t L W) ?_ ?_ 26 _ H86.out info_Sheet rfl (sht_one _ _ _ _ _ _) ?_
    · rfl
    · rfl
    have H87 : Hid (ObjAt (w6.setRow (w.heap.size + 1 + 1) (shtB id gr he t L W)) (w.heap.size + 1 + 1) (shtB id gr he t L W) 26) := setRow_heap _ _ _ _ _ _ H86.out
    have HB7 := Lib.hid (below_setRow HB6.out (show w.heap.size ≤ w.heap.size + 1 + 1 by omega) (shtB id gr he t L W))
    obtain ⟨W7, hW7⟩ : ∃ WX, w6.setRow (w.heap.size + 1 + 1) (shtB id gr he t L W) = WX := ⟨_, rfl⟩
    rw [hW7] at H87 HB7 ⊢
    clear hW7 H86 HB6 H46
    have q0 := H87.out.cell 0
    have z0 := H87.out.frozen 0
    simp only [shtB] at q0
    dsimp at q0
    have hsz : ¬ 9223372036854775807 < id.size + 1 := by omega
    go_upto_region 10 with fail
    obtain ⟨W8, HW8⟩ : ∃ X, Hid (W7.setCell ⟨w.heap.size + 1 + 1, 0, none⟩ (.string (id ++ ⟨#[114]⟩)) = X) := ⟨_, rfl⟩
    obtain ⟨id2, hid2⟩ : ∃ s, id ++ (⟨#[114]⟩ : ByteArray) = s := ⟨_, rfl⟩
    have H88 : Hid (ObjAt W8 (w.heap.size + 1 + 1) (shtB id2 gr he t L W) 26) := by show ObjAt ..; rw [← HW8.out, ← hid2]; exact H87.out.set 0 _
    have HB8 : Hid (Below w.heap.size w W8) := by show Below ..; rw [← HW8.out]; exact HB7.out.setCell (p := ⟨w.heap.size + 1 + 1, 0, none⟩) (by show w.heap.size ≤ w.heap.size + 1 + 1; omega) _
    rw [HW8.out]
    clear HW8 hid2 H87 HB7 q0 z0 hsz hid
    obtain ⟨mx, hmx⟩ : ∃ m, max A B = m := ⟨_, rfl⟩
    obtain ⟨mn, hmn⟩ : ∃ m, min A B = m := ⟨_, rfl⟩
    have HMX := Lib.hid hmx
    have HMN := Lib.hid hmn
    clear hmx hmn
    refine wp_region_ep 7 gmT gmT_ok [⟨w.heap.size + 1 + 1, 0, (shtB id2 gr he t L W).toList⟩] (fun v => v = W8) [(8, 0)] [] [(66, .int .i64 mx), (69, .int .i64 mn), (70, .pointer (some ⟨w.heap.size + 1 + 1, 3, none⟩))] (by kernel_rfl) rfl
      (obsC (fun u hu => by cases hu; exact range_new H88.out) obsN) ⟨rfl, trivial⟩ ?_
    conv => whnf
    intro f9
    conv => whnf
    refine And.intro (congrArg (Value.int .i64) HMX.out) ?_
    conv => whnf
    refine And.intro (congrArg (Value.int .i64) HMN.out) ?_
    conv => whnf
    refine And.intro (rfl) ?_
    conv => whnf
    intro _ he
    cases he
    change wpList Tryz.prog _ _ [_, _, _] _ _
    have q3 := H88.out.cell 3
    have q4 := H88.out.cell 4
    have z3 := H88.out.frozen 3
    have z4 := H88.out.frozen 4
    simp only [shtB] at q3 q4
    dsimp at q3 q4
    obtain ⟨W9, HW9⟩ : ∃ X, Hid ((W8.setCell ⟨w.heap.size + 1 + 1, 3, none⟩ (.int .i64 mx)).setCell ⟨w.heap.size + 1 + 1, 4, none⟩ (.int .i64 mn) = X) := ⟨_, rfl⟩
    have H89 : Hid (ObjAt W9 (w.heap.size + 1 + 1) (shtB id2 gr he t mx mn) 26) := by show ObjAt ..; rw [← HW9.out]; exact (H88.out.set 3 _).set 4 _
    have HB9 : Hid (Below w.heap.size w W9) := by show Below ..; rw [← HW9.out]; exact (HB8.out.setCell (p := ⟨w.heap.size + 1 + 1, 3, none⟩) (by show w.heap.size ≤ w.heap.size + 1 + 1; omega) _).setCell (p := ⟨w.heap.size + 1 + 1, 4, none⟩) (by show w.heap.size ≤ w.heap.size + 1 + 1; omega) _
    go_upto_region 11 with fail
    rw [HW9.out]
    clear q3 q4 z3 z4 HW9 H88 HB8
    refine wp_region_ep 1 gmT gmT_ok [⟨w.heap.size + 1 + 1, 0, (shtB id2 gr he t mx mn).toList⟩] (fun v => v = W9) [(8, 0)] [] [(72, .agg (shtB id2 gr he t mx mn))] (by kernel_rfl) rfl
      (obsC (fun u hu => by cases hu; exact range_new H89.out) obsN) ⟨rfl, trivial⟩ ?_
    conv => whnf
    refine And.intro (Nat.le_of_ble_eq_true rfl) ?_
    conv => whnf
    intro fA
    conv => whnf
    refine And.intro (rfl) ?_
    conv => whnf
    intro _ he
    cases he
    change wpList Tryz.prog _ _ [_, _] _ _
    refine wpList_store_row (o := ⟨none, .store _ _ _, _, _, _, _⟩) rfl 26 (.tmp 8) (.tmp 72) rfl (w.heap.size + 1 + 1) (shtB id2 gr he t mx mn) ?_ ?_ 26 _ H89.out info_Sheet rfl (sht_one _ _ _ _ _ _) ?_
    · rfl
    · rfl
    have HL := Lib.hid (load_Sheet (setRow_heap _ _ _ (shtB id2 gr he t mx mn) _ _ H89.out))
    have HBF := Lib.hid (below_setRow HB9.out (show w.heap.size ≤ w.heap.size + 1 + 1 by omega) (shtB id2 gr he t mx mn))
    go_wp2_with fail
    refine bodyPost_ret (results_two' Tryz.results8 rfl rfl HL.out) rfl ?_
    exact ⟨id2, _, _, _, mx, mn, r, true, rfl, HLG.out, fun _ => ⟨rfl, by rw [← HMX.out, HAE.out, HBE.out], by rw [← HMN.out, HAE.out, HBE.out]⟩, HBF.out⟩
end Go.Proofs.YtfmhickjefogdaaGreat

/- What is left of a plate, and what lies on it: plain. -/
namespace Go.Proofs.YtfmhickjefogdaaGreat
open Go.RowKit

theorem off_sep {ao bo : List Pnt} {ah bh : List (List Pnt)} (sa : Shp2 ao ah) (sb : Shp2 bo bh) (h : Off0 ao ah bo bh) : SepR ao ah bo bh := by
  have ap := h.ap
  have ca := sa.c ao (by simp)
  have cb := sb.c bo (by simp)
  refine ⟨fun c hc d hd => (cross_apart (sa.c c hc) (sb.c d hd)).2 (ap c hc d hd), ?_, ?_⟩
  · rcases h.z2 with g | ⟨k, hk, g⟩
    · exact .inl ((where_neg ca (cb.nr cb.len0) (apart_off (ap ao (by simp) bo (by simp)) cb.len0)).2 g)
    · exact .inr ⟨k, hk, (where_one (sa.c k (by simp [hk])) (cb.nr cb.len0) (apart_off (ap k (by simp [hk]) bo (by simp)) cb.len0)).2 g⟩
  · rcases h.z1 with g | ⟨k, hk, g⟩
    · exact .inl ((where_neg cb (ca.nr ca.len0) (apart_off (ap ao (by simp) bo (by simp)).sym ca.len0)).2 g)
    · exact .inr ⟨k, hk, (where_one (sb.c k (by simp [hk])) (ca.nr ca.len0) (apart_off (ap ao (by simp) k (by simp [hk])).sym ca.len0)).2 g⟩
theorem rct_shp2 {x0 y0 x1 y1 : Int} (hx : x0 < x1) (hy : y0 < y1) (h0 : 0 ≤ x0) (h1 : x1 ≤ 32768) (h2 : 0 ≤ y0) (h3 : y1 ≤ 32768) : Shp2 (rct x0 y0 x1 y1) [] := by
  refine ⟨rct_sh hx hy, fun l hl => ?_, by simp⟩
  rw [List.mem_singleton.1 hl]
  have b := rct_inn x0 y0 x1 y1 (by omega) (by omega)
  exact ⟨rct_simple hx hy, by show 4 ≤ 32; decide, near_of fun i hi => ⟨by have := b.x i hi; omega, by have := b.x i hi; omega, by have := b.y i hi; omega, by have := b.y i hi; omega⟩⟩
theorem bnd_inn (l : List Pnt) : Inn (bndL l).x0 (bndL l).y0 (bndL l).x1 (bndL l).y1 l :=
  ⟨fun i hi => ⟨(bndTo_in hi).1, (bndTo_in hi).2.1⟩, fun i hi => ⟨(bndTo_in hi).2.2.1, (bndTo_in hi).2.2.2⟩⟩
section
variable {P : List Prt} {sh : Sht} {gp : Int} {S : List Spo}
theorem nest_plIn (h : NestR P sh gp S) (l0 : 1 ≤ sh.length) (l1 : sh.length ≤ 32768) (w0 : 1 ≤ sh.width) (w1 : sh.width ≤ 32768) (hS : S.length ≤ 32) : PlIn sh.length sh.width gp (tkB P S) := by
  refine ⟨l0, l1, w0, w1, h.g0, h.g1, by rw [tkB_len]; exact hS, fun i hi => ?_⟩
  rw [tkB_len] at hi
  rw [tkB_at hi]
  have hs := h.s i hi
  have hin := hs.w.inn
  have hg := h.g0
  have := bndTo_mono (l := mvO P (soi S i)) (a := gp) (b := sh.length - gp) (c := gp) (d := sh.width - gp) (fun j hj => ⟨(hin.x j hj).1, (hin.x j hj).2, (hin.y j hj).1, (hin.y j hj).2⟩) hs.rgn.pos (Nat.le_refl _)
  unfold bndL
  omega
theorem nest_off (h1 : 1 ≤ gp) {r : Rct} (hf : FreS sh.length sh.width (tkE gp (tkB P S)) r) {j : Nat} (hj : j < S.length) (hm : (bndL (mvO P (soi S j))).x0 ≤ (bndL (mvO P (soi S j))).x1 ∧ (bndL (mvO P (soi S j))).y0 ≤ (bndL (mvO P (soi S j))).y1) :
    r.x1 < (bndL (mvO P (soi S j))).x0 ∨ (bndL (mvO P (soi S j))).x1 < r.x0 ∨ r.y1 < (bndL (mvO P (soi S j))).y0 ∨ (bndL (mvO P (soi S j))).y1 < r.y0 := by
  have hm1 : rci (tkB P S) j ∈ tkB P S := rci_mem (by rw [tkB_len]; exact hj)
  rw [tkB_at hj] at hm1
  generalize bndL (mvO P (soi S j)) = b at *
  have hm2 : enl gp b ∈ tkE gp (tkB P S) := by
    unfold tkE
    refine List.mem_filter.2 ⟨List.mem_map_of_mem hm1, ?_⟩
    unfold rctOK enl
    rw [Bool.and_eq_true, decide_eq_true_eq, decide_eq_true_eq]
    dsimp only
    omega
  have := hf.off hm2
  unfold enl at this
  dsimp only at this
  omega
theorem nest_box (h : NestR P sh gp S) {j : Nat} (hj : j < S.length) : (bndL (mvO P (soi S j))).x0 ≤ (bndL (mvO P (soi S j))).x1 ∧ (bndL (mvO P (soi S j))).y0 ≤ (bndL (mvO P (soi S j))).y1 := by
  have hs := h.s j hj
  have h0 := hs.rgn.pos
  have := bndTo_in (l := mvO P (soi S j)) (k := (mvO P (soi S j)).length) h0
  unfold bndL
  omega
theorem nest_sep (h : NestR P sh gp S) (l1 : sh.length ≤ 32768) (w1 : sh.width ≤ 32768) (h1 : 1 ≤ gp) {r : Rct} (hf : FreS sh.length sh.width (tkE gp (tkB P S)) r) {j : Nat} (hj : j < S.length) :
    SepR (rct r.x0 r.y0 r.x1 r.y1) [] (mvO P (soi S j)) (mvH P (soi S j)) := by
  have hp := hf.plate
  have hs := (h.s j hj).shp2.1
  exact off_sep (rct_shp2 (by omega) (by omega) (by omega) (by omega) (by omega) (by omega)) hs (rct_off (by omega) (by omega) (hs.s.len _ (by simp)) (hs.s.box (bnd_inn _)) (nest_off h1 hf hj (nest_box h hj)))
theorem sumB_snoc (l : List (List Pnt × List (List Pnt))) (s : List Pnt × List (List Pnt)) : sumB (l ++ [s]) = sumB l + sumA (s.1 :: s.2) := by
  induction l with
  | nil => show sumA _ + 0 = 0 + _; omega
  | cons t l ih => show sumA _ + sumB (l ++ [s]) = sumA _ + sumB l + _; rw [ih]; omega
theorem usd_sum (P : List Prt) (S : List Spo) : ∀ k, k ≤ S.length → usd P S k = sumB ((S.take k).map fun x => (mvO P x, mvH P x))
  | 0, _ => rfl
  | k + 1, hk => by
    have e : S[k]?.toList = [soi S k] := by simp [show k < S.length by omega, soi]
    rw [List.take_add_one, e, List.map_append, List.map_cons, List.map_nil, sumB_snoc, ← usd_sum P S k (by omega)]
    exact congrArg (usd P S k + ·) (sumA_mv (soi S k) _ _).symm
theorem nest_left (h : NestR P sh gp S) (l0 : 1 ≤ sh.length) (l1 : sh.length ≤ 32768) (w0 : 1 ≤ sh.width) (w1 : sh.width ≤ 32768) (h1 : 1 ≤ gp) {r : Rct} (hf : FreS sh.length sh.width (tkE gp (tkB P S)) r) :
    2 * arR r + usd P S S.length ≤ 2 * (sh.length * sh.width) := by
  have hp := hf.plate
  have mem : ∀ s ∈ S, ∃ j, j < S.length ∧ soi S j = s := fun s hs => by
    obtain ⟨j, hj, e⟩ := List.mem_iff_getElem.1 hs
    exact ⟨j, hj, by simp [soi, hj, e]⟩
  rw [usd_sum P S S.length (Nat.le_refl _), List.take_length]
  refine left_law (L := sh.length) (W := sh.width) (by omega) (by omega) hp.2.1 hp.2.2.2.2.1 hp.1 hp.2.2.1 hp.2.2.2.1 hp.2.2.2.2.2 (S.map fun x => (mvO P x, mvH P x)) (fun s hs => ?_) (fun s hs => ?_) (fun s hs => ?_) ?_
  · obtain ⟨x, hx, rfl⟩ := List.mem_map.1 hs
    obtain ⟨j, hj, rfl⟩ := mem x hx
    exact (h.s j hj).shp2.1
  · obtain ⟨x, hx, rfl⟩ := List.mem_map.1 hs
    obtain ⟨j, hj, rfl⟩ := mem x hx
    have hg := h.g0
    exact fun c hc => ((h.s j hj).shp2.2 c hc).wide hg hg (by omega) (by omega)
  · obtain ⟨x, hx, rfl⟩ := List.mem_map.1 hs
    obtain ⟨j, hj, rfl⟩ := mem x hx
    exact ⟨_, _, _, _, (h.s j hj).shp2.1.s.box (bnd_inn _), nest_off h1 hf hj (nest_box h hj)⟩
  · rw [List.pairwise_map, List.pairwise_iff_getElem]
    intro i j hi hj hij
    have := h.p j i hij hj
    have e1 : soi S i = S[i] := by simp [soi, hi]
    have e2 : soi S j = S[j] := by simp [soi, hj]
    rw [e1, e2] at this
    exact this
end
theorem arR_eq (r : Rct) : sumA [rct r.x0 r.y0 r.x1 r.y1] = 2 * arR r := by
  show area2 _ + 0 = _
  rw [rct_area]
  unfold arR
  omega
end Go.Proofs.YtfmhickjefogdaaGreat

/- The law: the largest free rectangle of a plate (printed by wip/gen_rnlw.py). -/
namespace Go.Proofs.YtfmhickjefogdaaGreat
open Go.RowKit

theorem four_pt (w : World) (x0 y0 x1 y1 : Int) : ∃ W1, Hid (SPt W1 (.slice (some ⟨w.heap.size, 0, none⟩) 4 4) (rct x0 y0 x1 y1)) ∧ Hid (Below w.heap.size w W1) ∧ Hid (w.alloc (.cells #[.int .i64 x0, .int .i64 y0, .int .i64 x1, .int .i64 y0, .int .i64 x1, .int .i64 y1, .int .i64 x0, .int .i64 y1] 37) = W1) ∧ Hid (W1.heap.size = w.heap.size + 1) :=
  ⟨_, OwnPt.s (B := w.heap.size) (World.ownsRow_lit w #[.int .i64 x0, .int .i64 y0, .int .i64 x1, .int .i64 y0, .int .i64 x1, .int .i64 y1, .int .i64 x0, .int .i64 y1] 4 (Nat.le_refl _) (by unfold maxLen; omega) rfl), (Below.refl _ _).alloc (Nat.le_refl _) _, rfl, by show _ = _; simp⟩
theorem fin_eq {l q A U L W : Int} {s : List UInt8} (h : l * q = A ∧ 0 ≤ l ∧ l ≤ 32768 ∧ 0 ≤ q ∧ q ≤ 32768) (hU : -100000000000000 ≤ U ∧ U ≤ 100000000000000) (hl : 2 * A + U ≤ 2 * (L * W)) (hW : (1 ≤ L ∧ L ≤ 32768) ∧ 1 ≤ W ∧ W ≤ 32768) :
    (true && IntKind.i64.wrap (l * q) == IntKind.i64.wrap ((2 * A).tdiv 2) && s == s && decide (IntKind.i64.wrap (IntKind.i64.wrap (IntKind.i64.wrap (2 * l) * q) + U) ≤ IntKind.i64.wrap (IntKind.i64.wrap (2 * L) * W))) = true := by
  obtain ⟨hA, l0, l1, q0, q1⟩ := h
  have a0 : 0 ≤ A := by rw [← hA]; exact Int.mul_nonneg l0 q0
  have a1 : A ≤ 32768 * 32768 := by rw [← hA]; exact Int.mul_le_mul l1 q1 q0 (by omega)
  have b0 : 0 ≤ L * W := Int.mul_nonneg (by omega) (by omega)
  have b1 : L * W ≤ 32768 * 32768 := Int.mul_le_mul hW.1.2 hW.2.2 (by omega) (by omega)
  have e1 : (2 * A).tdiv 2 = A := Int.mul_tdiv_cancel_left A (by decide)
  have e2 : 2 * l * q = 2 * A := by rw [Int.mul_assoc, hA]
  have e3 : 2 * L * W = 2 * (L * W) := Int.mul_assoc ..
  rw [e1, IntWalk.i64_in (2 * l) (by omega), IntWalk.i64_in (2 * L) (by omega), e2, e3, hA, IntWalk.i64_in (2 * A) (by omega), IntWalk.i64_in (2 * (L * W)) (by omega), IntWalk.i64_in (2 * A + U) (by omega)]
  simp [hl]
theorem lone_shp {w : World} {ov : Value} {o : List Pnt} (h : SPt w ov o) : ShpOK w ov (.slice none 0 0) o [] [] :=
  ⟨h, rfl, ⟨none, 0, rfl, Nat.le_refl _, Nat.zero_le _, fun i hi => by simp at hi⟩, fun i hi => by simp at hi⟩
set_option maxRecDepth 100000 in
set_option maxHeartbeats 8000000 in
theorem law_any (nm : List UInt8) (gp : Int) (sv pv : Value) (S : List Spo) (P : List Prt) (sh : Sht) (w : World) (hs : SSo w sv S) (hp : SPr w pv P) (ho : ∀ i, i < P.length → PrtOK w (pri P i)) (hid : sh.id.length ≤ 1000000000000000000) :
    Calls Tryz.prog 3 #[.agg #[.string (bs nm), .int .i64 gp, sv], .agg (shtA sh), pv] w (Ret w (.bool true)) := by
  have HSS := Lib.hid hs
  have HPP := Lib.hid hp
  have HPO := Lib.hid ho
  have HID : Hid ((bs sh.id).size ≤ 1000000000000000000) := by show _ ≤ _; show sh.id.length ≤ _; omega
  obtain ⟨sa, sc, rfl, _⟩ := hs
  obtain ⟨pa, pq, rfl, _⟩ := hp
  clear ho hid
  obtain ⟨W1, HN1, HT1, HB1, HW1⟩ := boxNS w nm gp sa S.length sc sh
  unfold shtA
  go_enter Tryz.func3, Tryz.ntmps3
  go_upto_region 1 with fail
  rw [HW1.out]
  clear HW1
  have n0 := HN1.out.cell 0
  have n1 := HN1.out.cell 1
  have n2 := HN1.out.cell 2
  have t0 := HT1.out.cell 0
  have t1 := HT1.out.cell 1
  have t2 := HT1.out.cell 2
  have t3 := HT1.out.cell 3
  have t4 := HT1.out.cell 4
  have t5 := HT1.out.cell 5
  simp only [shtA] at t0 t1 t2 t3 t4 t5
  dsimp at n0 n1 n2 t0 t1 t2 t3 t4 t5
  by_cases g1 : (8 : Int) < S.length
  · clear HSS HPP HPO
    go_wp2_with fail
    go_ret
    exact ⟨rfl, HB1.out⟩
  by_cases g2 : gp < 1
  · clear HSS HPP HPO
    go_wp2_with fail
    go_ret
    exact ⟨rfl, HB1.out⟩
  by_cases g3 : (60 : Int) < P.length
  · clear HSS HPP HPO
    go_wp2_with fail
    go_ret
    exact ⟨rfl, HB1.out⟩
  have HS8 : Hid (S.length ≤ 32) := by show _ ≤ _; omega
  have HP6 : Hid (P.length ≤ 100000) := by show _ ≤ _; omega
  go_wp2_with fail
  refine (rCheck23_any nm gp _ _ S sh P W1 (HSS.out.keep HB1.out) (HPP.out.keep HB1.out) (fun i hi => (HPO.out i hi).keep HB1.out) HS8.out HP6.out).mono ?_
  rintro e w2 ⟨z, rfl, hb2, hz⟩
  have HB2 := Lib.hid (ext_trans HB1.out hb2)
  have HN2 := Lib.hid (HN1.out.keep hb2)
  have HT2 := Lib.hid (HT1.out.keep hb2)
  have HGP : Hid (1 ≤ gp) := by show _ ≤ _; omega
  clear hb2 n0 n1 n2 t0 t1 t2 t3 t4 t5 HN1 HT1 HB1 g1 g2 g3
  have HZ := Lib.hid hz
  clear hz
  by_cases g4 : z = 0
  rotate_left
  · have hz1 : (z != 0) = true := by simpa using g4
    clear HSS HPP HPO g4
    go_wp2_with fail
    go_ret
    exact ⟨rfl, HB2.out⟩
  subst g4
  have n0 := HN2.out.cell 0
  have n1 := HN2.out.cell 1
  have n2 := HN2.out.cell 2
  have t0 := HT2.out.cell 0
  have t1 := HT2.out.cell 1
  have t2 := HT2.out.cell 2
  have t3 := HT2.out.cell 3
  have t4 := HT2.out.cell 4
  have t5 := HT2.out.cell 5
  simp only [shtA] at t0 t1 t2 t3 t4 t5
  dsimp at n0 n1 n2 t0 t1 t2 t3 t4 t5
  by_cases g5 : sh.length < 1
  · clear HSS HPP HPO HZ
    go_wp2_with fail
    go_ret
    exact ⟨rfl, HB2.out⟩
  by_cases g6 : sh.width < 1
  · clear HSS HPP HPO HZ
    go_wp2_with fail
    go_ret
    exact ⟨rfl, HB2.out⟩
  by_cases g7 : 32768 < sh.length
  · clear HSS HPP HPO HZ
    go_wp2_with fail
    go_ret
    exact ⟨rfl, HB2.out⟩
  by_cases g8 : 32768 < sh.width
  · clear HSS HPP HPO HZ
    go_wp2_with fail
    go_ret
    exact ⟨rfl, HB2.out⟩
  have HNR := Lib.hid (HZ.out rfl)
  have HLW : Hid ((1 ≤ sh.length ∧ sh.length ≤ 32768) ∧ 1 ≤ sh.width ∧ sh.width ≤ 32768) := by show _ ∧ _; omega
  have HPI := Lib.hid (nest_plIn HNR.out HLW.out.1.1 HLW.out.1.2 HLW.out.2.1 HLW.out.2.2 HS8.out)
  clear HZ
  go_wp2_with fail
  refine (nShapes_any nm gp _ _ S P sh.length sh.width w2 (HSS.out.keep HB2.out) (HPP.out.keep HB2.out) (fun i hi => (HPO.out i hi).keep HB2.out) HS8.out HP6.out HNR.out.s).mono ?_
  rintro e w3 ⟨v3, ss, rfl, hs3, hk3, hb3⟩
  have HB3 := Lib.hid (ext_trans HB2.out hb3)
  have HN3 := Lib.hid (HN2.out.keep hb3)
  have HT3 := Lib.hid (HT2.out.keep hb3)
  have HK3 := Lib.hid hk3
  have hsl : ss.length = S.length := hk3.n
  clear hb3 hk3 n0 n1 n2 t0 t1 t2 t3 t4 t5 HN2 HT2 HB2 g5 g6 g7 g8
  obtain ⟨xa, xc, e3, _, _, q3⟩ := hs3
  rw [hsl] at e3 q3
  subst e3
  have Q3 := Lib.hid q3
  clear hsl q3
  have n0 := HN3.out.cell 0
  have n1 := HN3.out.cell 1
  have n2 := HN3.out.cell 2
  have t0 := HT3.out.cell 0
  have t1 := HT3.out.cell 1
  have t2 := HT3.out.cell 2
  have t3 := HT3.out.cell 3
  have t4 := HT3.out.cell 4
  have t5 := HT3.out.cell 5
  simp only [shtA] at t0 t1 t2 t3 t4 t5
  dsimp at n0 n1 n2 t0 t1 t2 t3 t4 t5
  go_wp2_with fail
  refine (eTaken_any nm gp _ _ S P sh.length sh.width w3 (HSS.out.keep HB3.out) (HPP.out.keep HB3.out) (fun i hi => (HPO.out i hi).keep HB3.out) HS8.out HP6.out HNR.out.s).mono ?_
  rintro e w4 ⟨v4, rfl, ht4, hb4⟩
  have HB4 := Lib.hid (ext_trans HB3.out hb4)
  have HN4 := Lib.hid (HN3.out.keep hb4)
  have HT4 := Lib.hid (HT3.out.keep hb4)
  have HK4 := Lib.hid (HK3.out.keep hb4)
  have HE34 := Lib.hid hb4
  have HTT := Lib.hid ht4
  clear hb4 n0 n1 n2 t0 t1 t2 t3 t4 t5 HN3 HT3 HB3
  obtain ⟨ta, tc, rfl, _⟩ := ht4
  have n0 := HN4.out.cell 0
  have n1 := HN4.out.cell 1
  have n2 := HN4.out.cell 2
  have t0 := HT4.out.cell 0
  have t1 := HT4.out.cell 1
  have t2 := HT4.out.cell 2
  have t3 := HT4.out.cell 3
  have t4 := HT4.out.cell 4
  have t5 := HT4.out.cell 5
  simp only [shtA] at t0 t1 t2 t3 t4 t5
  dsimp at n0 n1 n2 t0 t1 t2 t3 t4 t5
  go_wp2_with fail
  refine (eLargest_any sh.length sh.width gp _ (tkB P S) w4 HTT.out HPI.out).mono ?_
  rintro e w5 ⟨r, ok, rfl, hlg, hb5⟩
  have HB5 := Lib.hid (ext_trans HB4.out hb5)
  have HN5 := Lib.hid (HN4.out.keep hb5)
  have HT5 := Lib.hid (HT4.out.keep hb5)
  have HLG := Lib.hid hlg
  have HE35 := Lib.hid (ext_trans HE34.out hb5)
  clear hb5 hlg n0 n1 n2 t0 t1 t2 t3 t4 t5 HN4 HT4 HB4 HTT HE34 HK4
  obtain ⟨W6, HR6, HB6', HW6⟩ := newObj w5 (rcA r) 39
  have HB6 := Lib.hid (ext_trans HB5.out HB6'.out)
  have HN6 := Lib.hid (HN5.out.keep HB6'.out)
  have HT6 := Lib.hid (HT5.out.keep HB6'.out)
  have HE36 := Lib.hid (ext_trans HE35.out HB6'.out)
  unfold rcV
  go_upto_region 6 with fail
  rw [show w5.alloc (.cells #[.int .i64 r.x0, .int .i64 r.y0, .int .i64 r.x1, .int .i64 r.y1] 39) = W6 from HW6.out]
  obtain ⟨bq, hbq⟩ : ∃ b, w5.heap.size = b := ⟨_, rfl⟩
  rw [hbq] at HR6 ⊢
  clear hbq HW6 HB6' HN5 HT5 HB5 HE35
  have hq : ((S.length : Int) != S.length) = false := by simp
  have n0 := HN6.out.cell 0
  have n1 := HN6.out.cell 1
  have n2 := HN6.out.cell 2
  have t0 := HT6.out.cell 0
  have t1 := HT6.out.cell 1
  have t2 := HT6.out.cell 2
  have t3 := HT6.out.cell 3
  have t4 := HT6.out.cell 4
  have t5 := HT6.out.cell 5
  simp only [shtA] at t0 t1 t2 t3 t4 t5
  dsimp at n0 n1 n2 t0 t1 t2 t3 t4 t5
  cases ok
  · clear HE36 HK3 Q3 HR6
    go_wp2_with fail
    refine (eOf_any (bs sh.id) (bs sh.grade) (bs sh.heat) sh.thick sh.length sh.width nm gp _ _ S P W6 (HSS.out.keep HB6.out) (HPP.out.keep HB6.out) (fun i hi => (HPO.out i hi).keep HB6.out) HS8.out HP6.out HNR.out.s HPI.out HID.out).mono ?_
    rintro e w7 ⟨id7, gr7, he7, th7, le7, wi7, r7, ok7, rfl, hlg7, _, hb7⟩
    have HB7 := Lib.hid (ext_trans HB6.out hb7)
    have hok : ok7 = false := by
      rcases hlg7 with ⟨e, _⟩ | ⟨_, hf, _⟩
      · exact e
      · rcases HLG.out with ⟨_, _, hno⟩ | ⟨e, _⟩
        · exact absurd hf (hno _)
        · cases e
    subst hok
    obtain ⟨W8, HR8, HB8', HW8⟩ := newObj w7 (shtB id7 gr7 he7 th7 le7 wi7) 26
    have HB8 := Lib.hid (ext_trans HB7.out HB8'.out)
    clear hlg7 hb7 n0 n1 n2 t0 t1 t2 t3 t4 t5 HN6 HT6 HB6
    unfold shtB
    go_upto_region 10 with fail
    rw [show w7.alloc (.cells #[.string id7, .string gr7, .int .i64 th7, .int .i64 le7, .int .i64 wi7, .string he7] 26) = W8 from HW8.out]
    clear HW8 HR8
    go_wp2_with fail
    go_ret
    exact ⟨rfl, HB8.out⟩
  · have HF := Lib.hid (show FreS sh.length sh.width (tkE gp (tkB P S)) r ∧ ∀ x, FreS sh.length sh.width (tkE gp (tkB P S)) x → arR x ≤ arR r by
      rcases HLG.out with ⟨e, _⟩ | ⟨_, h1, h2⟩
      · cases e
      · exact ⟨h1, h2⟩)
    clear HLG
    obtain ⟨W7, HX7, HB7', HW7, HS7⟩ := four_pt W6 r.x0 r.y0 r.x1 r.y1
    obtain ⟨W8, HO8, HB8', HW8⟩ := newObj W7 #[.slice (some ⟨W6.heap.size, 0, none⟩) 4 4, .slice none 0 0] 47
    have HB67 := Lib.hid (ext_trans HB7'.out HB8'.out)
    have HB8 := Lib.hid (ext_trans HB6.out HB67.out)
    have HN8 := Lib.hid (HN6.out.keep HB67.out)
    have HT8 := Lib.hid (HT6.out.keep HB67.out)
    have HE38 := Lib.hid (ext_trans HE36.out HB67.out)
    have HX8 := Lib.hid (HX7.out.keep HB8'.out)
    have r0 := HR6.out.cell 0
    have r1 := HR6.out.cell 1
    have r2 := HR6.out.cell 2
    have r3 := HR6.out.cell 3
    simp only [rcA] at r0 r1 r2 r3
    dsimp at r0 r1 r2 r3
    go_upto_region 12 with fail
    rw [HW7.out, HW8.out]
    obtain ⟨bp, hbp⟩ : ∃ b, W6.heap.size = b := ⟨_, rfl⟩
    rw [HS7.out, hbp] at HO8
    rw [hbp] at HX8 ⊢
    clear r0 r1 r2 r3 n0 n1 n2 t0 t1 t2 t3 t4 t5 HW7 HW8 HB67 HX7 HB7' HB8' HN6 HT6 HB6 HE36 hbp HS7 hq HR6
    have n0 := HN8.out.cell 0
    have n1 := HN8.out.cell 1
    have n2 := HN8.out.cell 2
    have t0 := HT8.out.cell 0
    have t1 := HT8.out.cell 1
    have t2 := HT8.out.cell 2
    have t3 := HT8.out.cell 3
    have t4 := HT8.out.cell 4
    have t5 := HT8.out.cell 5
    simp only [shtA] at t0 t1 t2 t3 t4 t5
    dsimp at n0 n1 n2 t0 t1 t2 t3 t4 t5
    have s0 := HO8.out.cell 0
    have s1 := HO8.out.cell 1
    dsimp at s0 s1
    go_wp2_with fail
    refine (gWithin0_any _ _ (rct r.x0 r.y0 r.x1 r.y1) sh.length sh.width W8 HX8.out (by show 4 ≤ 1000; decide) (by show 0 < 4; decide) ⟨_, _, _, rfl⟩ (by have := HLW.out; omega) HLW.out.1.2 (by have := HLW.out; omega) HLW.out.2.2 ?_).mono ?_
    · have hp := HF.out.1.plate
      exact (rct_inn r.x0 r.y0 r.x1 r.y1 (by omega) (by omega)).wide hp.1 hp.2.2.2.1 hp.2.2.1 hp.2.2.2.2.2
    rintro e w9 ⟨rfl, hb9⟩
    have HB9 := Lib.hid (ext_trans HB8.out hb9)
    have HN9 := Lib.hid (HN8.out.keep hb9)
    have HT9 := Lib.hid (HT8.out.keep hb9)
    have HE39 := Lib.hid (ext_trans HE38.out hb9)
    have HO9 := Lib.hid (HO8.out.keep hb9)
    have HX9 := Lib.hid (HX8.out.keep hb9)
    clear hb9 n0 n1 n2 t0 t1 t2 t3 t4 t5 s0 s1 HN8 HT8 HB8 HE38 HO8 HX8
    have hs8 : S.length ≤ 32 := HS8.out
    go_wp2_with fail
    go_loopw [16] (fun i wr => ∃ k : Nat, k ≤ S.length ∧ i = .int .i64 k ∧ Hid (Below w9.heap.size w9 wr)) (fun i _ => S.length - (intOf i).toNat)
    case atStart => exact ⟨0, Nat.zero_le _, rfl, Below.refl _ _⟩
    case round =>
      obtain ⟨k, hk, rfl, hb⟩ := hrel
      by_cases hlt : k < S.length
      · have i1 : (k : Int) < S.length := by omega
        obtain ⟨pb, po, rfl, hc⟩ := Q3.out k hlt
        have HC := Lib.hid (hc.keep (ext_trans HE39.out hb.out))
        have HSH := Lib.hid ((HK3.out.s k hlt).keep (ext_trans HE39.out hb.out))
        have HRG := Lib.hid (HNR.out.s k hlt).rgn
        have HSP := Lib.hid (nest_sep HNR.out HLW.out.1.2 HLW.out.2.2 HGP.out HF.out.1 hlt)
        have HRR := Lib.hid (rgn_shp.2 (rct_shp2 HF.out.1.plate.2.1 HF.out.1.plate.2.2.2.2.1 HF.out.1.plate.1 (by have := HF.out.1.plate; have := HLW.out; omega) HF.out.1.plate.2.2.2.1 (by have := HF.out.1.plate; have := HLW.out; omega)))
        have HXX := Lib.hid (lone_shp (HX9.out.keep hb.out))
        have HOO := Lib.hid (HO9.out.keep hb.out)
        clear hc
        obtain ⟨x, hx⟩ : ∃ x, shi ss k = x := ⟨_, rfl⟩
        rw [hx] at HC HSH
        clear hx
        obtain ⟨oa, on, oc, ha, hn, hc, so, sl, hvs⟩ := x
        dsimp only at HC HSH
        go_upto_region 17 with fail
        refine wp_region_ev gmT gmT_ok [⟨bp + 1, 0, (#[.slice (some ⟨bp, 0, none⟩) 4 4, .slice none 0 0] : Array Value).toList⟩, ⟨pb, po + k * 2, shCells ⟨oa, on, oc, ha, hn, hc, so, sl, hvs⟩⟩] (Below wr.heap.size wr) [(15, 0)] [(144, .ix k 1), (146, .ret (.bool true))] [(147, .bool false)] (by kernel_rfl) mixed (by kernel_rfl) ((Below.refl _ _).drew)
          (obsC (fun u hu => rangeKeep (range_new HOO.out) hu) (obsC (fun u hu => rangeKeep (sh_range HC.out) hu) obsN)) ⟨rfl, trivial⟩ ?_
        conv => whnf
        refine And.intro (Nat.le_of_ble_eq_true rfl) ?_
        conv => whnf
        refine And.intro (under_of ⟨rfl, hlt, rfl, rfl⟩) ?_
        conv => whnf
        refine And.intro (Nat.le_of_ble_eq_true rfl) ?_
        conv => whnf
        refine And.intro (under_of fun u hu => ret_in (gClear_zero _ _ _ _ _ _ _ _ _ _ u (HXX.out.keep hu) (HSH.out.keep hu) HRR.out HRG.out HSP.out) hu) ?_
        conv => whnf
        intro f4
        conv => whnf
        refine And.intro (rfl) ?_
        conv => whnf
        intro wA hA
        have HBA := Lib.hid (ext_trans hb.out hA)
        clear hA
        go_wp2_with fail
        go_roundw
        case rel => exact ⟨k + 1, by omega, by go_num, HBA⟩
        case measure => simp [intOf]; omega
      · have i1 : ¬ (k : Int) < S.length := by omega
        have HBA := Lib.hid (ext_trans HB9.out hb.out)
        have HNA := Lib.hid (HN9.out.keep hb.out)
        have HTA := Lib.hid (HT9.out.keep hb.out)
        have HOA := Lib.hid (HO9.out.keep hb.out)
        have HXA := Lib.hid (HX9.out.keep hb.out)
        clear hb HB9 HN9 HT9 HO9 HX9 HE39 Q3 HK3
        have n0 := HNA.out.cell 0
        have n1 := HNA.out.cell 1
        have n2 := HNA.out.cell 2
        have t0 := HTA.out.cell 0
        have t1 := HTA.out.cell 1
        have t2 := HTA.out.cell 2
        have t3 := HTA.out.cell 3
        have t4 := HTA.out.cell 4
        have t5 := HTA.out.cell 5
        simp only [shtA] at t0 t1 t2 t3 t4 t5
        dsimp at n0 n1 n2 t0 t1 t2 t3 t4 t5
        go_wp2_with fail
        refine (eOf_any (bs sh.id) (bs sh.grade) (bs sh.heat) sh.thick sh.length sh.width nm gp _ _ S P wr (HSS.out.keep HBA.out) (HPP.out.keep HBA.out) (fun i hi => (HPO.out i hi).keep HBA.out) HS8.out HP6.out HNR.out.s HPI.out HID.out).mono ?_
        rintro e wC ⟨idC, grC, heC, thC, leC, wiC, rC, okC, rfl, hlgC, hofC, hbC⟩
        have HBC := Lib.hid (ext_trans HBA.out hbC)
        have HNC := Lib.hid (HNA.out.keep hbC)
        have HTC := Lib.hid (HTA.out.keep hbC)
        have HOC := Lib.hid (HOA.out.keep hbC)
        have HXC := Lib.hid (HXA.out.keep hbC)
        have hC : okC = true ∧ arR rC = arR r ∧ PlR rC := by
          rcases hlgC with ⟨_, _, hno⟩ | ⟨e, h1, h2⟩
          · exact absurd HF.out.1 (hno _)
          · exact ⟨e, Int.le_antisymm (HF.out.2 _ h1) (h2 _ HF.out.1), h1.plR HLW.out.1.2 HLW.out.2.2⟩
        obtain ⟨rfl, hCa, hCp⟩ := hC
        obtain ⟨rfl, hCl, hCw⟩ := hofC rfl
        have HLQ : Hid (leC * wiC = arR r ∧ 0 ≤ leC ∧ leC ≤ 32768 ∧ 0 ≤ wiC ∧ wiC ≤ 32768) := by
          unfold PlR at hCp
          refine ⟨?_, by omega, by omega, by omega, by omega⟩
          rw [← hCa]
          unfold arR
          rcases Int.le_total (rC.x1 - rC.x0) (rC.y1 - rC.y0) with q | q
          · rw [hCl, hCw, Int.max_eq_right q, Int.min_eq_left q, Int.mul_comm]
          · rw [hCl, hCw, Int.max_eq_left q, Int.min_eq_right q]
        clear hCa hCp hCl hCw hofC hlgC hbC n0 n1 n2 t0 t1 t2 t3 t4 t5 HBA HNA HTA HOA HXA
        obtain ⟨WD, HYD, HBD', HWD⟩ := newObj wC (shtB idC grC (bs sh.heat) thC leC wiC) 26
        have HBD := Lib.hid (ext_trans HBC.out HBD'.out)
        have HND := Lib.hid (HNC.out.keep HBD'.out)
        have HTD := Lib.hid (HTC.out.keep HBD'.out)
        have HOD := Lib.hid (HOC.out.keep HBD'.out)
        have HXD := Lib.hid (lone_shp (HXC.out.keep HBD'.out))
        unfold shtB
        go_upto_region 20 with fail
        rw [show wC.alloc (.cells #[.string idC, .string grC, .int .i64 thC, .int .i64 leC, .int .i64 wiC, .string (bs sh.heat)] 26) = WD from HWD.out]
        obtain ⟨yb, hyb⟩ : ∃ b, wC.heap.size = b := ⟨_, rfl⟩
        rw [hyb] at HYD ⊢
        clear hyb HWD HBD' HBC HNC HTC HOC HXC
        have HRR := Lib.hid (rgn_shp.2 (rct_shp2 HF.out.1.plate.2.1 HF.out.1.plate.2.2.2.2.1 HF.out.1.plate.1 (by have := HF.out.1.plate; have := HLW.out; omega) HF.out.1.plate.2.2.2.1 (by have := HF.out.1.plate; have := HLW.out; omega)))
        have HUS : Hid (-100000000000000 ≤ usd P S S.length ∧ usd P S S.length ≤ 100000000000000) := by have := usd_small HNR.out.s S.length (Nat.le_refl _); have := HS8.out; show _ ∧ _; omega
        refine wp_region_ev gmT2 gmT2_ok [⟨w.heap.size, 0, (#[.string (bs nm), .int .i64 gp, .slice sa S.length sc] : Array Value).toList⟩, ⟨w.heap.size + 1, 0, (shtA sh).toList⟩, ⟨bp + 1, 0, (#[.slice (some ⟨bp, 0, none⟩) 4 4, .slice none 0 0] : Array Value).toList⟩, ⟨yb, 0, (shtB idC grC (bs sh.heat) thC leC wiC).toList⟩] (Below WD.heap.size WD) [(3, 0), (4, 1), (15, 2), (17, 3)] [(163, .ret (.int .i64 (2 * arR r))), (183, .ret (.int .i64 (usd P S S.length)))] [(6, .bool true)] (by kernel_rfl) mixed (by kernel_rfl) ((Below.refl _ _).drew)
          (obsC (fun u hu => rangeKeep (range_new HND.out) hu) (obsC (fun u hu => rangeKeep (range_new HTD.out) hu) (obsC (fun u hu => rangeKeep (range_new HOD.out) hu) (obsC (fun u hu => rangeKeep (range_new HYD.out) hu) obsN)))) ⟨rfl, rfl, rfl, rfl, trivial⟩ ?_
        conv => whnf
        refine And.intro (Nat.le_of_ble_eq_true rfl) ?_
        conv => whnf
        refine And.intro (under_of fun u hu => ret_in (by have := gArea2_any _ _ _ _ _ u (HXD.out.keep hu) HRR.out; rw [arR_eq] at this; exact this) hu) ?_
        conv => whnf
        refine And.intro (under_of (by decide)) ?_
        conv => whnf
        refine And.intro (Nat.le_of_ble_eq_true rfl) ?_
        conv => whnf
        refine And.intro (under_of fun u hu => ret_in (nUsed2_any nm gp _ _ S P sh.length sh.width u (HSS.out.keep (ext_trans HBD.out hu)) (HPP.out.keep (ext_trans HBD.out hu)) (fun i hi => (HPO.out i hi).keep (ext_trans HBD.out hu)) HS8.out HP6.out HNR.out.s) hu) ?_
        conv => whnf
        intro f5
        conv => whnf
        refine And.intro (congrArg Value.bool (fin_eq HLQ.out HUS.out (nest_left HNR.out HLW.out.1.1 HLW.out.1.2 HLW.out.2.1 HLW.out.2.2 HGP.out HF.out.1) HLW.out)) ?_
        conv => whnf
        intro wE hE
        have HBE := Lib.hid (ext_trans HBD.out hE)
        clear hE
        go_wp2_with fail
        go_ret
        exact ⟨rfl, HBE.out⟩
end Go.Proofs.YtfmhickjefogdaaGreat

/- The frame of rows whose program has laid variables: a wrap that hands the contract what the row lays and the world's shape; arguments opened: structs, slices of structs, numbers. -/
namespace Go.Proofs.YtfmhickjefogdaaGreat
open Go.ChangeShapes Go.WideShapes Go.ChangeAt Go.RowKit Go.Deep

theorem own : ownKnob Tryz.prog.godebug = none := by kernel_rfl
theorem laidOut : laidOutB Tryz.prog = true := by kernel_rfl
section
variable {H : Type} {enc : TypeId × Value → H}
theorem returns_row {a : Assume} {C : Checked} {os : Os} {f : FuncId} {fn : Func} {s : ChangeSpec} {conds : List PathCond} {apart fresh handsOn again : Bool} {X : World → Array Value → Prop}
    (hX : ∀ (w w' : World) (args : Array Value), w.heap = w'.heap → X w args → X w' args)
    (own : ownKnob C.prog.godebug = none) (started : os.Started) (noInit : C.prog.inits.idxOf? f = none) (hfn : C.prog.funcs[f]? = some fn)
    (witness : ∃ (w : World) (tape : Tape) (i : Input), w.os = os ∧ (w.forCall tape i).Shaped C.prog ∧ i.vars = [] ∧ Input.okWide C.prog (w.forCall tape i) .any w.heap.size f i ∧
      ((s.pre enc C.prog fn conds apart (w.forCall tape i).memory i.args ∧ X (w.forCall tape i).memory i.args) ∧ sizedMet enc C.prog fn (OpenSpec.ofChange s) apart (w.forCall tape i).memory i.args) ∧ a.holds C.prog (lone (Frame.enter C.prog f i.args .normal) [] (w.forCall tape i)))
    (contract : ∀ (W : World) (base : Nat) (args : Array Value) (ds gs : List (DataW H)) (before : List MemPlace),
      (∀ (j : Nat) t v, fn.params[j]? = some t → args[j]? = some v → Value.okWide C.prog W .any base t v) →
      DataW.Whole enc C.prog fn.params.toList s.vars apart W args.toList ds gs before → X W args → W.ShapedOpen C.prog →
      Calls C.prog f args W fun e W' => ∃ v, e = .returned v ∧ s.post enc C.prog fn apart fresh handsOn again W args v W') :
    ReturnsInHanded a C os f .any (fun w args => (s.pre enc C.prog fn conds apart w args ∧ X w args) ∧ sizedMet enc C.prog fn (OpenSpec.ofChange s) apart w args) (s.post enc C.prog fn apart fresh handsOn again) := by
  refine returnsInHanded_of_calls own started noInit witness ?_
  intro w tape i _ hsh _ hok hpre _
  obtain ⟨_, _, _, fn', hfn', _, _, _, _, hval⟩ := hok
  have e : fn' = fn := Option.some.inj (hfn'.symm.trans hfn)
  subst e
  obtain ⟨⟨⟨ds, gs, before, hw, _⟩, hx⟩, _⟩ := hpre
  have hw' := DataW.Whole.of_heap (w' := w.forCall tape i) (by rfl) hw
  refine (contract (w.forCall tape i) w.heap.size i.args ds gs before hval hw' (hX _ _ _ (by rfl) hx) hsh).mono fun e W' ⟨v, he, hp⟩ => ?_
  subst he
  exact ChangeSpec.post_blind hp
end
theorem Sl_of {w : World} {a : Addr} {n cap : Nat} {C : Nat → Value} (h1 : n ≤ cap) (h2 : cap ≤ maxLen) (h : ∀ i, i < n → w.cell? (a.add i) = some (C i)) : Sl w (.slice (some a) n cap) n C := by
  refine ⟨some a, cap, rfl, h1, h2, fun i hi => ?_⟩
  obtain ⟨b, off, spot⟩ := a
  have h0 := h 0 (by omega)
  have hs : spot = none := by simpa [Addr.add] using World.cell?_spot h0
  subst hs
  refine ⟨b, off, rfl, ?_⟩
  have := h i hi
  rwa [show (⟨b, off, none⟩ : Addr).add i = ⟨b, off + i, none⟩ by unfold Addr.add; split <;> simp_all] at this
theorem SI_of {w : World} {a : Addr} {n cap : Nat} {zs : List Int} (h1 : n ≤ cap) (h2 : cap ≤ maxLen) (hz : zs.length = cap) (h : ∀ i, i < cap → w.cell? (a.add i) = some (.int .i64 (zs.getD i 0))) : SI w (.slice (some a) n cap) (zs.take n) := by
  have hl : (zs.take n).length = n := by simp; omega
  unfold SI
  rw [hl]
  exact Sl_of h1 h2 fun i hi => by rw [h i (by omega), gi_take hi]; rfl

/-- the types of the cells of a type's fields, if they lie one behind the other -/
def fieldsOf (P : Program) (L : TypeId → Option (List TypeId)) : List Field → Nat → Option (List TypeId)
  | [], _ => some []
  | f :: r, off => if f.offset = off then
      match L f.type with
      | some l => if P.cellsOf f.type = l.length then (fieldsOf P L r (off + l.length)).map (l ++ ·) else none
      | none => none
    else none
def leavesOf (P : Program) : Nat → TypeId → Option (List TypeId)
  | 0, _ => none
  | n + 1, t => match P.underlying t with
    | some (.struct fs) => fieldsOf P (leavesOf P n) fs.toList 0
    | some _ => some [t]
    | none => none

section
variable {H : Type} {enc : TypeId × Value → H} {P : Program} {w : World} {base : Nat} {spare : Nat → Bool} {held : Bool}

theorem fields_trod {L : TypeId → Option (List TypeId)} {m : Nat} {cs : List Value}
    (hL : ∀ (t : TypeId) (ls : List TypeId) (cs' : List Value) (x : DataW H × List MemPlace), L t = some ls → DataW.trod enc P w base spare held m t cs' = some x → cs'.length = ls.length → ∀ (i : Nat) (t' : TypeId), ls[i]? = some t' → ∃ v n y, cs'[i]? = some v ∧ DataW.trod enc P w base spare held n t' [v] = some y) :
    ∀ (fs : List Field) (off : Nat) (ls : List TypeId), fieldsOf P L fs off = some ls → off + ls.length ≤ cs.length →
    (∀ (i : Nat) (f : Field), fs[i]? = some f → ∃ x, DataW.trod enc P w base spare held m f.type ((cs.drop f.offset).take (P.cellsOf f.type)) = some x) →
    ∀ (i : Nat) (t' : TypeId), ls[i]? = some t' → ∃ v n y, cs[off + i]? = some v ∧ DataW.trod enc P w base spare held n t' [v] = some y := by
  intro fs
  induction fs with
  | nil => intro off ls h _ _ i t' hi; simp only [fieldsOf, Option.some.injEq] at h; subst h; simp at hi
  | cons f r ih =>
    intro off ls h hlen hf i t' hi
    unfold fieldsOf at h
    by_cases ho : f.offset = off
    · rw [if_pos ho] at h
      cases hl : L f.type with
      | none => simp [hl] at h
      | some l =>
        rw [hl] at h
        simp only at h
        by_cases hc : P.cellsOf f.type = l.length
        · rw [if_pos hc] at h
          cases hr : fieldsOf P L r (off + l.length) with
          | none => simp [hr] at h
          | some lr =>
            rw [hr] at h
            simp only [Option.map_some, Option.some.injEq] at h
            subst h
            rw [List.length_append] at hlen
            by_cases hil : i < l.length
            · obtain ⟨x, hx⟩ := hf 0 f rfl
              rw [ho, hc] at hx
              rw [List.getElem?_append_left hil] at hi
              obtain ⟨v, n, y, hv, hy⟩ := hL f.type l _ x hl hx (by simp; omega) i t' hi
              refine ⟨v, n, y, ?_, hy⟩
              rw [List.getElem?_take, if_pos hil, List.getElem?_drop] at hv
              exact hv
            · rw [List.getElem?_append_right (by omega)] at hi
              obtain ⟨v, n, y, hv, hy⟩ := ih (off + l.length) lr hr (by omega) (fun j g hg => hf (j + 1) g (by simpa using hg)) (i - l.length) t' hi
              refine ⟨v, n, y, ?_, hy⟩
              rw [show off + i = off + l.length + (i - l.length) by omega]; exact hv
        · rw [if_neg hc] at h; cases h
    · rw [if_neg ho] at h; cases h

/-- the leaves of what was trod -/
theorem trod_leaves : ∀ (n : Nat) (t : TypeId) (ls : List TypeId), leavesOf P n t = some ls → ∀ (fuel : Nat) (cs : List Value) (x : DataW H × List MemPlace), DataW.trod enc P w base spare held fuel t cs = some x → cs.length = ls.length →
    ∀ (i : Nat) (t' : TypeId), ls[i]? = some t' → ∃ v m y, cs[i]? = some v ∧ DataW.trod enc P w base spare held m t' [v] = some y := by
  intro n
  induction n with
  | zero => intro t ls h; simp [leavesOf] at h
  | succ n ih =>
    intro t ls h fuel cs x hx hlen i t' hi
    unfold leavesOf at h
    split at h
    · rename_i fs hs
      obtain ⟨xs, m, _, _, _, hxl, hg⟩ := DataW.trod_struct hs hx
      have := fields_trod (enc := enc) (P := P) (w := w) (base := base) (spare := spare) (held := held) (L := leavesOf P n) (m := m) (cs := cs) (fun t ls cs' x h1 h2 h3 => ih t ls h1 m cs' x h2 h3) fs.toList 0 ls h (by omega) (fun j f hj => by
        have hj' : fs[j]? = some f := by simpa using hj
        have := hg j f hj'
        have hjl : j < fs.size := (Array.getElem?_eq_some_iff.1 hj').1
        exact ⟨_, this.trans (List.getElem?_eq_getElem (by omega))⟩) i t' hi
      rwa [Nat.zero_add] at this
    · simp only [Option.some.injEq] at h
      subst h
      match cs, hlen with
      | [v], _ =>
        match i, hi with
        | 0, hi => simp only [List.getElem?_cons_zero, Option.some.injEq] at hi; subst hi; exact ⟨v, fuel, x, rfl, hx⟩
    · cases h

/-- a struct by value: its cells -/
theorem open_leaves {n : Nat} {t : TypeId} {ls : List TypeId} {fs : Array Field} {r : Go.Reach} {b0 : Nat} {v : Value} {d : DataW H} {p : List MemPlace} (hs : P.underlying t = some (.struct fs)) (hl : leavesOf P n t = some ls) (hC : P.cellsOf t = ls.length)
    (hv : Value.okWide P w r b0 t v) (h : DataW.Trod enc P w base spare held t v d p) :
    ∃ cs : Array Value, v = .agg cs ∧ cs.size = ls.length ∧ ∀ (i : Nat) (t' : TypeId), ls[i]? = some t' → ∃ u m y, cs[i]? = some u ∧ DataW.trod enc P w base spare held m t' [u] = some y := by
  obtain ⟨cs, rfl, hsz⟩ := okWide_struct hs hv
  obtain ⟨fuel, hf⟩ := h
  refine ⟨cs, rfl, hsz.trans hC, fun i t' hi => ?_⟩
  obtain ⟨u, m, y, h1, h2⟩ := trod_leaves n t ls hl fuel cs.toList (d, p) hf (by simpa using hsz.trans hC) i t' hi
  exact ⟨u, m, y, by simpa using h1, h2⟩

/-- n structs of k cells each: cell j of struct i holds C i j -/
def SR (w : World) (v : Value) (n k : Nat) (C : Nat → Nat → Value) : Prop :=
  ∃ a cap, v = .slice a n cap ∧ n ≤ cap ∧ cap ≤ maxLen ∧ ∀ i, i < n → ∃ b off, a = some ⟨b, off, none⟩ ∧ ∀ j, j < k → w.cell? ⟨b, off + i * k + j, none⟩ = some (C i j)

/-- a slice of structs -/
theorem open_rows {n : Nat} {t e : TypeId} {ls : List TypeId} {fuel : Nat} {cs : List Value} {x : DataW H × List MemPlace} (ht : P.underlying t = some (.slice e)) (hl : leavesOf P n e = some ls) (hC : P.cellsOf e = ls.length) (hpos : 0 < ls.length)
    (h : DataW.trod enc P w base spare held fuel t cs = some x) :
    ∃ (v : Value) (m : Nat) (C : Nat → Nat → Value), cs = [v] ∧ SR w v m ls.length C ∧ ∀ i, i < m → ∀ (j : Nat) (t' : TypeId), ls[j]? = some t' → ∃ q y, DataW.trod enc P w base spare held q t' [C i j] = some y := by
  rcases open_slice ht h with ⟨h0, _⟩ | ⟨a, len, cap, m, q, D, Pl, hcs, hb, hle, hm, hmm, hx, hi⟩
  · exact ⟨_, 0, fun _ _ => undef, h0, ⟨none, 0, rfl, Nat.le_refl _, Nat.zero_le _, fun i hi => by omega⟩, fun i hi => by omega⟩
  · have hlm : len ≤ m := by rw [hmm]; split <;> omega
    have key : ∀ i, i < m → ∀ (j : Nat) (t' : TypeId), ls[j]? = some t' → ∃ u q y, w.cell? (a.add (i * ls.length + j)) = some u ∧ DataW.trod enc P w base spare held q t' [u] = some y := by
      intro i him j t' hj
      obtain ⟨cs', hc, ht'⟩ := hi i him
      rw [hC] at hc
      obtain ⟨_, hcl, hat⟩ := World.cells?_some hc
      obtain ⟨u, q', y, h1, h2⟩ := trod_leaves n e ls hl q cs' _ ht' hcl j t' hj
      have hjl : j < ls.length := (List.getElem?_eq_some_iff.1 hj).1
      refine ⟨u, q', y, ?_, h2⟩
      rw [← Go.Deep.add_add, hat j hjl, h1]
    refine ⟨_, len, fun i j => (w.cell? (a.add (i * ls.length + j))).getD undef, hcs, ⟨some a, cap, rfl, hle, hm, fun i hil => ?_⟩, fun i hil j t' hj => ?_⟩
    · have k0 := key 0 (by omega) 0 _ (List.getElem?_eq_getElem hpos)
      obtain ⟨u0, _, _, h0, _⟩ := k0
      obtain ⟨b, off, spot⟩ := a
      have hsp : spot = none := by simpa [Addr.add] using World.cell?_spot h0
      subst hsp
      refine ⟨b, off, rfl, fun j hj => ?_⟩
      obtain ⟨u, _, _, hu, _⟩ := key i (by omega) j _ (List.getElem?_eq_getElem hj)
      have hadd : (⟨b, off, none⟩ : Addr).add (i * ls.length + j) = ⟨b, off + i * ls.length + j, none⟩ := by unfold Addr.add; simp [Nat.add_assoc]
      dsimp only
      rw [← hadd, hu]; rfl
    · obtain ⟨u, q', y, h1, h2⟩ := key i (by omega) j t' hj
      exact ⟨q', y, by dsimp only; rw [h1]; exact h2⟩
end

theorem SR.keep {w w' : World} {v : Value} {n k : Nat} {C : Nat → Nat → Value} (h : SR w v n k C) (hb : Below w.heap.size w w') : SR w' v n k C := by
  obtain ⟨a, cap, rfl, h1, h2, h3⟩ := h
  refine ⟨a, cap, rfl, h1, h2, fun i hi => ?_⟩
  obtain ⟨b, off, ha, hc⟩ := h3 i hi
  exact ⟨b, off, ha, fun j hj => cell_keep hb (hc j hj)⟩

section
variable {H : Type} {enc : TypeId × Value → H} {W : World}
theorem ints_trod {fuel : Nat} {v : Value} {x : DataW H × List MemPlace} (h : DataW.trod enc Tryz.prog W 0 (fun _ => true) true fuel 93 [v] = some x) : ∃ xs, SI W v xs ∧ ∀ x ∈ xs, (Lit.int .i64 x).wf = true := by
  rcases open_ints Tryz.underlying93 Tryz.underlying3 (by kernel_rfl) h with ⟨hcs, _⟩ | ⟨x, l, c', zs, hcs, _, hl, hm, hz, _, hcell, hwz⟩
  · simp at hcs
    subst hcs
    exact ⟨[], SI_nil _, by simp⟩
  · simp at hcs
    subst hcs
    have hz' : zs.length = c' := by simpa using hz
    exact ⟨zs.take l, SI_of hl hm hz' (fun i hi => hcell i (by omega)), fun x hx => hwz x (List.mem_of_mem_take hx)⟩
theorem int_trod {fuel : Nat} {t : TypeId} {v : Value} {x : DataW H × List MemPlace} {k : IntKind} (ht : Tryz.prog.underlying t = some (.int k)) (h : DataW.trod enc Tryz.prog W 0 (fun _ => true) true fuel t [v] = some x) : ∃ n, v = .int k n ∧ (Lit.int k n).wf = true := by
  obtain ⟨n, h1, _, h2⟩ := DataW.trod_int ht h
  simp at h1
  exact ⟨n, h1, h2⟩
theorem str_trod {fuel : Nat} {t : TypeId} {v : Value} {x : DataW H × List MemPlace} (ht : Tryz.prog.underlying t = some .string) (h : DataW.trod enc Tryz.prog W 0 (fun _ => true) true fuel t [v] = some x) : ∃ s, v = .string s ∧ s.size ≤ maxLen := by
  obtain ⟨n, h1, _, h2⟩ := DataW.trod_string ht h
  simp at h1
  exact ⟨n, h1, h2⟩
theorem slice_trod {fuel : Nat} {t e : TypeId} {v : Value} {x : DataW H × List MemPlace} (ht : Tryz.prog.underlying t = some (.slice e)) (h : DataW.trod enc Tryz.prog W 0 (fun _ => true) true fuel t [v] = some x) : ∃ a n c, v = .slice a n c := by
  rcases open_slice ht h with ⟨h0, _⟩ | ⟨a, len, cap, m, q, D, Pl, hcs, _⟩
  · simp at h0; exact ⟨_, _, _, h0⟩
  · simp at hcs; exact ⟨_, _, _, hcs⟩
end
end Go.Proofs.YtfmhickjefogdaaGreat
