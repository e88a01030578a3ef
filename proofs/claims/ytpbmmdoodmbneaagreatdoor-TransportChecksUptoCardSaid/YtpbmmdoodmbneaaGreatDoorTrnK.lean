/- Contract: Check of transport. -/
import Derived.Test.YtpbmmdoodmbneaaGreatDoorTrnSt
namespace Go.Proofs.YtpbmmdoodmbneaaGreatDoor
open Go.RowKit

theorem onesE_at {ms : List Mov} {tr : List Trk} {d : List (List Int)} {l : List Trp} {k : Nat} (h : k < l.length) : onesE ms tr d (l.take k) (l.drop k) =
    if oneE ms tr d (l.take k) (tpi l k) ≠ 0 then oneE ms tr d (l.take k) (tpi l k) else onesE ms tr d (l.take (k + 1)) (l.drop (k + 1)) := by
  rw [List.drop_eq_getElem_cons h, ← tpi_lt h]
  show (if _ then _ else _ : Int) = _
  rw [take_tpi h]
theorem onesE_end (ms : List Mov) (tr : List Trk) (d : List (List Int)) (bs l : List Trp) {k : Nat} (h : l.length ≤ k) : onesE ms tr d bs (l.drop k) = 0 := by
  rw [List.drop_eq_nil_of_le h]; rfl
/-- right trips -/
structure TripOK (ms : List Mov) (x : Trp) : Prop where
  s0 : 0 ≤ x.start
  s1 : x.start ≤ 1099511627776
  f0 : 0 ≤ x.fin
  f1 : x.fin ≤ 1099512627776
  mv : ∃ m, fndM ms x.item = some m
theorem oneE_ok {ms : List Mov} {tr : List Trk} {d : List (List Int)} (hY : YardOK tr d) (hM : MovesOK ms d.length) {bs : List Trp} {x : Trp} (h : oneE ms tr d bs x = 0) : TripOK ms x := by
  unfold oneE at h
  split at h
  · cases h
  rename_i m hm
  split at h
  · cases h
  split at h
  · cases h
  rename_i t ht
  split at h
  · cases h
  split at h
  · cases h
  rename_i h3
  split at h
  · cases h
  rename_i h4
  have hmm : m ∈ ms := List.mem_of_find?_eq_some hm
  have htt : t ∈ tr := List.mem_of_find?_eq_some ht
  have h5 := hM.rg m hmm
  have h6 := hours_range hY htt m.frm m.to
  exact ⟨by omega, by omega, by omega, by omega, m, hm⟩
theorem onesE_all {ms : List Mov} {tr : List Trk} {d : List (List Int)} (hY : YardOK tr d) (hM : MovesOK ms d.length) : ∀ (l bs : List Trp), onesE ms tr d bs l = 0 → ∀ x ∈ l, TripOK ms x := by
  intro l
  induction l with
  | nil => intro bs _ x hx; cases hx
  | cons y r ih =>
    intro bs h x hx
    unfold onesE at h
    split at h
    · exact absurd h ‹_›
    rename_i h1
    rcases List.mem_cons.1 hx with rfl | hx
    · exact oneE_ok hY hM (by simpa using h1)
    · exact ih _ h x hx
/-- the trips of one transporter, from place k on -/
def ownK (o : List Trp) (t : Trk) (k : Nat) : List Trp := (o.drop k).filter fun x => x.truck == t.name
theorem ownK_at {o : List Trp} {t : Trk} {k : Nat} (h : k < o.length) : ownK o t k = if ((tpi o k).truck == t.name) = true then tpi o k :: ownK o t (k + 1) else ownK o t (k + 1) := by
  unfold ownK
  rw [List.drop_eq_getElem_cons h, ← tpi_lt h, List.filter_cons]
theorem ownK_end (o : List Trp) (t : Trk) {k : Nat} (h : o.length ≤ k) : ownK o t k = [] := by
  unfold ownK; rw [List.drop_eq_nil_of_le h]; rfl
/-- a trip too early behind one -/
def ovH (t : Trk) (d : List (List Int)) (x : Trp) (f : Int) : Option (Int × Int) → Bool
  | none => false
  | some (pl, en) => decide (x.start < en + emptyV t d pl f)
theorem ovB_cons (ms : List Mov) (t : Trk) (d : List (List Int)) (s : Option (Int × Int)) (x : Trp) (r : List Trp) : ovB ms t d s (x :: r) = (ovH t d x ((fndM ms x.item).getD default).frm s || ovB ms t d (some (((fndM ms x.item).getD default).to, x.fin)) r) := by
  cases s <;> rfl
/-- what two slots say of the trip before -/
def StR (n : Nat) (a e : Value) : Option (Int × Int) → Prop
  | none => a = .int .i64 (-1)
  | some (pl, en) => a = .int .i64 pl ∧ e = .int .i64 en ∧ 0 ≤ pl ∧ pl < n ∧ 0 ≤ en ∧ en ≤ 1099512627776
theorem anyU_succ {α : Type} [Inhabited α] (p : α → Bool) (l : List α) {k : Nat} (h : k < l.length) : (l.take (k + 1)).any p = ((l.take k).any p || p (l.getD k default)) := by
  rw [List.take_succ_eq_append_getElem h, List.any_append]
  simp [h]
theorem any_at {α : Type} [Inhabited α] {p : α → Bool} {l : List α} {k : Nat} (h : k < l.length) (hp : p (l.getD k default) = true) : l.any p = true :=
  List.any_eq_true.2 ⟨l.getD k default, by simp [h], hp⟩
theorem ownS_eq (l : List Trp) (t : Trk) : ownS l t = ownK (srtS l) t 0 := rfl

set_option maxHeartbeats 8000000 in
set_option maxRecDepth 100000 in
theorem Check_any (mv v dv lv : Value) (ms : List Mov) (tr : List Trk) (d : List (List Int)) (l : List Trp) (w : World) (hm : SM w mv ms) (h : SK w v tr) (hd : SS w dv d) (hl : SX w lv l) (hz : ∀ t ∈ tr, t.name.length ≤ maxLen) (hzm : ∀ m ∈ ms, m.item.length ≤ maxLen) (hM : MLen w) :
    Calls Tryz.prog 6 #[mv, v, dv, lv] w (Ret w (.int .i64 (chkTE ms tr d l))) := by
  have mxd : Tryz.prog.follows .mixedOrders = true := mixed
  have ene := enter_empty
  have HCK := Lib.hid (check_any mv v dv ms tr d w hm h hd hz hzm hM)
  have HM := Lib.hid hm
  have HK := Lib.hid h
  have HD := Lib.hid hd
  have HX := Lib.hid hl
  obtain ⟨ma, mc, rfl, mn, mm, _⟩ := hm
  obtain ⟨ka, kc, rfl, kn, km, _⟩ := h
  obtain ⟨da, dc, rfl, dn, dm, _⟩ := hd.open
  obtain ⟨xa, xc, rfl, xn, xm, _⟩ := hl
  clear hd hz hzm hM
  have HC : Hid (chkTE ms tr d l = if inE ms tr d ≠ 0 then inE ms tr d else if l.length ≠ ms.length then 17 else if onesE ms tr d [] l ≠ 0 then onesE ms tr d [] l
    else if (tr.any fun t => ovB ms t d none (ownS l t)) = true then 19 else 0) := rfl
  have HTR : Hid (inE ms tr d = 0 → ∀ (bv : Value) (bef : List Trp) (x : Trp) (W : World), Below w.heap.size w W → SX W bv bef → Calls Tryz.prog 16 #[.slice ma ms.length mc, .slice ka tr.length kc, .slice da d.length dc, bv, .agg #[.string (bs x.item), .string (bs x.truck), .int .i64 x.start, .int .i64 x.fin]] W (Ret W (.int .i64 (oneE ms tr d bef x)))) :=
    fun hok bv bef x W hb hs => trip_any _ _ _ bv ms tr d bef x W (HM.out.keep hb) (HK.out.keep hb) (HD.out.keep hb) hs hok
  have HOK : Hid (inE ms tr d = 0 → YardOK tr d ∧ MovesOK ms d.length) := fun h => inE_ok h
  generalize inE ms tr d = y at *
  by_cases hy : y = 0
  · subst hy
    obtain ⟨hY, hMO⟩ := HOK.out rfl
    have HYD := Lib.hid hY
    have HMO := Lib.hid hMO
    have HT := Lib.hid (HTR.out rfl)
    have hntr := hY.n2
    have hnms := hMO.ln
    have hdl := hY.d2
    have HC2 : Hid (chkTE ms tr d l = if l.length ≠ ms.length then 17 else if onesE ms tr d [] l ≠ 0 then onesE ms tr d [] l else if (tr.any fun t => ovB ms t d none (ownS l t)) = true then 19 else 0) := HC.out
    clear HC HTR HOK hY hMO
    by_cases hln : l.length = ms.length
    · have HC3 : Hid (chkTE ms tr d l = if onesE ms tr d [] l ≠ 0 then onesE ms tr d [] l else if (tr.any fun t => ovB ms t d none (ownS l t)) = true then 19 else 0) := by show _ = _; rw [HC2.out, if_neg (by simpa using hln)]
      have hlb : ((l.length : Int) != (ms.length : Int)) = false := by rw [bne_eq_false_iff_eq]; omega
      have hl128 : l.length ≤ 128 := by omega
      have HLN := Lib.hid hln
      clear HC2 hln
      go_enter Tryz.func6, Tryz.ntmps6
      go_wp2_with fail
      refine HCK.out.mono ?_
      rintro e w1 ⟨rfl, hb1⟩
      have HB1 := Lib.hid hb1
      clear hb1 HCK
      go_wp2_with fail
      clear hlb
      go_loopw [35] (fun i wr => ∃ k : Nat, k ≤ l.length ∧ i = .int .i64 k ∧ Hid (Below w.heap.size w wr) ∧ Hid (onesE ms tr d [] l = onesE ms tr d (l.take k) (l.drop k))) (fun i _ => l.length - (intOf i).toNat)
      case atStart => exact ⟨0, Nat.zero_le _, rfl, HB1.out, rfl⟩
      case round =>
        obtain ⟨k, hk, rfl, hb, hE⟩ := hrel
        by_cases hlt : k < l.length
        · have HXr := Lib.hid (HX.out.keep hb.out)
          obtain ⟨b, off, ha, hc⟩ := HXr.out.at hlt
          subst ha
          have HA := Lib.hid (onesE_at (ms := ms) (tr := tr) (d := d) hlt)
          have HTK := Lib.hid (HXr.out.take k (by omega))
          generalize tpi l k = x at *
          obtain ⟨c0, c1, c2, c3⟩ := hc
          have s1 : (k : Int) ≤ xc := by omega
          have HBA : Hid (Below wr.heap.size wr (wr.alloc (.cells #[.string (bs x.item), .string (bs x.truck), .int .i64 x.start, .int .i64 x.fin] 43)).drew) := ((Below.refl _ _).alloc (Nat.le_refl _) _).drew
          go_wp2_with fail
          go_region_with (refine (HT.out _ (l.take k) x _ (ext_trans hb.out HBA.out) (HTK.out.keep HBA.out)).mono ?_; rintro e w3 ⟨rfl, hb3⟩)
          have HB3 := Lib.hid (ext_trans (ext_trans hb.out HBA.out) hb3)
          clear hb3
          by_cases ho : oneE ms tr d (l.take k) x = 0
          · have HN : Hid (onesE ms tr d [] l = onesE ms tr d (l.take (k + 1)) (l.drop (k + 1))) := by show _ = _; rw [hE.out, HA.out, if_neg (by simpa using ho)]
            have hob : (oneE ms tr d (l.take k) x != 0) = false := by simpa using ho
            clear ho
            go_wp2_with fail
            go_roundw
            case rel => exact ⟨k + 1, by omega, by go_num, HB3.out, HN.out⟩
            case measure => simp [intOf]; omega
          · have HN : Hid (chkTE ms tr d l = oneE ms tr d (l.take k) x) := by
              have : onesE ms tr d [] l = oneE ms tr d (l.take k) x := by rw [hE.out, HA.out, if_pos ho]
              show _ = _
              rw [HC3.out, this, if_pos ho]
            have hob : (oneE ms tr d (l.take k) x != 0) = true := by simpa using ho
            clear ho
            go_wp2_with fail
            go_ret
            exact ⟨ret_int HN.out.symm, HB3.out⟩
        · have hones : onesE ms tr d [] l = 0 := by rw [hE.out, onesE_end _ _ _ _ _ (by omega)]
          have HC4 : Hid (chkTE ms tr d l = if (tr.any fun t => ovB ms t d none (ownS l t)) = true then 19 else 0) := by show _ = _; rw [HC3.out, hones]; rfl
          have HTO := Lib.hid (onesE_all HYD.out HMO.out l [] hones)
          clear HC3 hones hE HT
          go_wp2_with fail
          refine (cloneX_any _ l _ (HX.out.keep hb.out) (by omega)).mono ?_
          rintro e w3 ⟨ov, rfl, ho3, hb3⟩
          have HO3 := Lib.hid ho3
          have HB3 := Lib.hid (ext_trans hb.out hb3)
          obtain ⟨oa, oc, rfl, hoc⟩ := ho3.form
          have hwr := hb.out.size
          clear ho3 hb3 hb
          go_wp2_with fail
          refine (sortX_any _ l w3 wr.heap.size HO3.out (by omega) (fun x hx => ⟨(HTO.out x hx).s0, (HTO.out x hx).s1⟩)).mono ?_
          rintro e w4 ⟨rfl, hg4, ho4⟩
          have hB4 : Below w.heap.size w w4 := below_own HB3.out hg4 (fun n hn => by have := (HO3.out.lt n hn).1; omega)
          have HB4 := Lib.hid hB4
          have HSX := Lib.hid ho4.s
          have HSP : Hid (∀ x ∈ srtS l, TripOK ms x) := fun x hx => HTO.out x ((srtS_perm l).mem_iff.1 hx)
          have hsl : (srtS l).length = l.length := (srtS_perm l).length_eq
          have HC5 : Hid (chkTE ms tr d l = if (tr.any fun t => ovB ms t d none (ownK (srtS l) t 0)) = true then 19 else 0) := HC4.out
          clear hB4 ho4 hg4 HO3 HB3 HC4 HTO
          generalize srtS l = o at *
          have HSL := Lib.hid hsl
          clear hsl
          have HMF : Hid (∀ x : List UInt8, (findG (fun m : Mov => m.item == x) ms = -1 ∧ fndM ms x = none) ∨ ∃ i : Nat, i < ms.length ∧ findG (fun m : Mov => m.item == x) ms = i ∧ fndM ms x = some (mvi ms i)) := fun x => findG_cases _ _
          go_wp2_with fail
          go_loopw [58] (fun i wr => ∃ k : Nat, k ≤ tr.length ∧ i = .int .i64 k ∧ Hid (Below w.heap.size w wr) ∧ Hid (SX wr (.slice oa l.length oc) o) ∧ Hid ((tr.take k).any (fun t => ovB ms t d none (ownK o t 0)) = false)) (fun i _ => tr.length - (intOf i).toNat)
          case atStart => exact ⟨0, Nat.zero_le _, rfl, HB4.out, HSX.out, rfl⟩
          case round =>
            clear HB4 HSX
            obtain ⟨k, hk, rfl, hb, hso, hno⟩ := hrel
            by_cases hlt : k < tr.length
            · obtain ⟨b, off, ha, hc⟩ := (HK.out.keep hb.out).at hlt
              subst ha
              have hmem := tki_mem hlt
              have hrt := HYD.out.hr _ hmem
              have HAN := Lib.hid (anyU_succ (fun t => ovB ms t d none (ownK o t 0)) tr hlt)
              have HAT := Lib.hid (fun hp => any_at (p := fun t => ovB ms t d none (ownK o t 0)) hlt hp)
              have HTK : Hid (tr.getD k default = tki tr k) := rfl
              generalize tki tr k = t at *
              obtain ⟨c0, c1, c2⟩ := hc
              go_wp2_with fail
              obtain ⟨W2, hW2⟩ : ∃ W2, W2 = wr.alloc (.cells #[.string (bs t.name), .int .i64 t.load, .int .i64 t.hours] 36) := ⟨_, rfl⟩
              obtain ⟨K, hKe⟩ : ∃ K, K = wr.heap.size := ⟨_, rfl⟩
              rw [← hW2, ← hKe]
              have HKA : Hid (KAt W2 K 0 t) := by
                show KAt _ _ _ _
                rw [hW2, hKe]; exact ⟨by simp, by simp, by simp⟩
              have hbW : Below wr.heap.size wr W2 := by rw [hW2]; exact (Below.refl _ _).alloc (Nat.le_refl _) _
              have HSO2 := Lib.hid (hso.out.keep hbW)
              have HB2 := Lib.hid (ext_trans hb.out hbW)
              clear hW2 hKe hbW hso hb c0 c1 c2 hmem
              go_loopw [16, 17, 64] (fun a e i w5 => ∃ (j : Nat) (st : Option (Int × Int)), j ≤ l.length ∧ i = .int .i64 j ∧ Hid (Below W2.heap.size W2 w5) ∧ Hid (StR d.length a e st) ∧ Hid (ovB ms t d none (ownK o t 0) = ovB ms t d st (ownK o t j))) (fun _ _ i _ => l.length - (intOf i).toNat)
              case atStart => exact ⟨0, none, Nat.zero_le _, rfl, Below.refl _ _, rfl, rfl⟩
              case round =>
                obtain ⟨w5, rfl⟩ : ∃ x : World, x = wr := ⟨_, rfl⟩
                obtain ⟨j, st, hj, rfl, hb5, hst, hov⟩ := hrel
                by_cases hlt2 : j < l.length
                · have hjo : j < o.length := by rw [HSL.out]; exact hlt2
                  obtain ⟨b2, off2, ha2, hc2⟩ := (HSO2.out.keep hb5.out).at hjo
                  subst ha2
                  have hok := HSP.out _ (tpi_mem hjo)
                  have HOA := Lib.hid (ownK_at (t := t) hjo)
                  generalize tpi o j = x at *
                  obtain ⟨x0, x1, x2, x3⟩ := hc2
                  have hK5 := HKA.out.keep hb5.out
                  have k0 : w5.cell? ⟨K, 0, none⟩ = some (.string (bs t.name)) := hK5.c0
                  have k1 : w5.cell? ⟨K, 1, none⟩ = some (.int .i64 t.load) := hK5.c1
                  have k2 : w5.cell? ⟨K, 2, none⟩ = some (.int .i64 t.hours) := hK5.c2
                  have hKl : K < w5.heap.size := World.block_lt_of_cell? w5 _ k0
                  have hbe := bs_eq x.truck t.name
                  cases hxt : (x.truck == t.name)
                  · have HN : Hid (ownK o t j = ownK o t (j + 1)) := by show _ = _; rw [HOA.out, hxt]; rfl
                    rw [hxt] at hbe
                    clear hxt
                    go_wp2_with fail
                    go_roundw
                    case rel => exact ⟨j + 1, st, by omega, by go_num, below_alloc hb5.out _, hst.out, by rw [← HN.out]; exact hov.out⟩
                    case measure => simp [intOf]; omega
                  · have HN : Hid (ownK o t j = x :: ownK o t (j + 1)) := by show _ = _; rw [HOA.out, hxt]; rfl
                    rw [hxt] at hbe
                    clear hxt HOA
                    have HB5w := Lib.hid (ext_trans HB2.out hb5.out)
                    have HBX : Hid (Below w5.heap.size w5 (w5.alloc (.cells #[.string (bs x.item), .string (bs x.truck), .int .i64 x.start, .int .i64 x.fin] 43))) := (Below.refl _ _).alloc (Nat.le_refl _) _
                    have HXA : Hid (XAt (w5.alloc (.cells #[.string (bs x.item), .string (bs x.truck), .int .i64 x.start, .int .i64 x.fin] 43)) w5.heap.size 0 x) := ⟨by simp, by simp, by simp, by simp⟩
                    go_wp2_with fail
                    refine (find_M _ x.item ms _ (HM.out.keep (ext_trans HB5w.out HBX.out))).mono ?_
                    rintro e w6 ⟨rfl, hb6⟩
                    have HB6 := Lib.hid (ext_trans HBX.out hb6)
                    have HX6 := Lib.hid (HXA.out.keep hb6)
                    have HK6 := Lib.hid (HKA.out.keep (ext_trans hb5.out HB6.out))
                    clear hb6 HBX HXA x0 x1 x2 x3 k0 k1 k2 hbe
                    rcases HMF.out x.item with ⟨_, e2⟩ | ⟨i, hi, e1, e2⟩
                    · obtain ⟨m, hm⟩ := hok.mv
                      rw [hm] at e2; cases e2
                    rw [e1]
                    have HFM : Hid ((fndM ms x.item).getD default = mvi ms i) := by show _ = _; rw [e2]; rfl
                    have hB6w := ext_trans HB5w.out HB6.out
                    obtain ⟨b3, off3, ha3, hc3⟩ := (HM.out.keep hB6w).at hi
                    subst ha3
                    have hrg := HMO.out.rg _ (mvi_mem hi)
                    have HBW6 := Lib.hid hB6w
                    clear e1 e2 hB6w
                    generalize mvi ms i = m at *
                    obtain ⟨g0, g1, g2, g3, g4⟩ := hc3
                    have i0 : (0 : Int) ≤ i := by omega
                    have i1 : (i : Int) < ms.length := by omega
                    have i2 : (i : Int) < mc := by omega
                    go_wp2_with fail
                    obtain ⟨W7, hW7⟩ : ∃ W7, W7 = w6.alloc (.cells #[.string (bs m.item), .int .i64 m.frm, .int .i64 m.to, .int .i64 m.ready, .int .i64 m.mass] 39) := ⟨_, rfl⟩
                    obtain ⟨M, hMe⟩ : ∃ M, M = w6.heap.size := ⟨_, rfl⟩
                    obtain ⟨X, hXe⟩ : ∃ X, X = w5.heap.size := ⟨_, rfl⟩
                    have hb67 : Below w6.heap.size w6 W7 := by rw [hW7]; exact (Below.refl _ _).alloc (Nat.le_refl _) _
                    have hX7 : XAt W7 X 0 x := by rw [hXe]; exact HX6.out.keep hb67
                    have hK7 := HK6.out.keep hb67
                    have hM7 : MAt W7 M 0 m := by rw [hW7, hMe]; exact ⟨by simp, by simp, by simp, by simp, by simp⟩
                    have HB7 := Lib.hid (ext_trans HBW6.out hb67)
                    have HB27 := Lib.hid (ext_trans (ext_trans hb5.out HB6.out) hb67)
                    rw [← hW7, ← hMe, ← hXe]
                    clear hW7 hMe hXe hb67 g0 g1 g2 g3 g4 HX6 HK6 HBW6 hK5 hKl
                    have HOV : Hid (ovB ms t d none (ownK o t 0) = (ovH t d x m.frm st || ovB ms t d (some (m.to, x.fin)) (ownK o t (j + 1)))) := by
                      show _ = _; rw [hov.out, HN.out, ovB_cons, HFM.out]
                    have hst2 := hst.out
                    have STN : Hid (StR d.length (.int .i64 m.to) (.int .i64 x.fin) (some (m.to, x.fin))) := ⟨rfl, rfl, by omega, by omega, hok.f0, hok.f1⟩
                    clear hov hst HFM HN
                    cases st with
                    | none =>
                      have hu : u16 = .int .i64 (-1) := hst2
                      subst hu
                      have HO2 : Hid (ovB ms t d none (ownK o t 0) = ovB ms t d (some (m.to, x.fin)) (ownK o t (j + 1))) := by show _ = _; rw [HOV.out]; rfl
                      have f2 : W7.cell? ⟨M, 2, none⟩ = some (.int .i64 m.to) := hM7.c2
                      have f3 : W7.cell? ⟨X, 3, none⟩ = some (.int .i64 x.fin) := hX7.c3
                      clear HOV hM7 hX7 hK7
                      go_wp2_with fail
                      go_quiet (fail)
                      go_wp2_with fail
                      go_quiet (fail)
                      go_wp2_with fail
                      go_roundw
                      case rel => exact ⟨j + 1, _, by omega, by go_num, (by first | exact below_drewN' HB27.out _ | exact below_drewN' (below_drewN' HB27.out _) _), STN.out, HO2.out⟩
                      case measure => simp [intOf]; omega
                    | some pe =>
                      obtain ⟨pl, en⟩ := pe
                      obtain ⟨hu1, hu2, hp0, hp1, he0, he1⟩ : u16 = .int .i64 pl ∧ u17 = .int .i64 en ∧ 0 ≤ pl ∧ pl < d.length ∧ 0 ≤ en ∧ en ≤ 1099512627776 := hst2
                      subst hu1 hu2
                      obtain ⟨p, rfl⟩ : ∃ p : Nat, pl = p := ⟨pl.toNat, by omega⟩
                      obtain ⟨mf, hmf⟩ : ∃ q : Nat, m.frm = q := ⟨m.frm.toNat, by omega⟩
                      have hpd : p < d.length := by omega
                      have hmd : mf < (ri d p).length := by rw [HYD.out.sq _ (ri_mem hpd)]; omega
                      have hdr := HYD.out.dist p mf
                      have HOV2 : Hid (ovB ms t d none (ownK o t 0) = (decide (x.start < en + emptyV t d p mf) || ovB ms t d (some (m.to, x.fin)) (ownK o t (j + 1)))) := by
                        show _ = _; rw [HOV.out, hmf]; rfl
                      have hme : 0 ≤ emptyV t d p mf ∧ emptyV t d p mf ≤ 500001 := by
                        unfold emptyV
                        rw [Int.toNat_natCast, Int.toNat_natCast]
                        generalize gi (ri d p) mf = z at *
                        have h4 : t.hours * z ≤ 100 * 10000 := Int.mul_le_mul hrt.2.2.2 hdr.2 hdr.1 (by omega)
                        have h5 : 0 ≤ t.hours * z := Int.mul_nonneg (by omega) hdr.1
                        omega
                      have HE : Hid (∀ n os, Calls Tryz.prog 22 #[.agg #[.string (bs t.name), .int .i64 t.load, .int .i64 t.hours], .slice da d.length dc, .int .i64 p, .int .i64 mf] (Sort.grow (W7.drewN n) os) fun e w' => e = .returned (.int .i64 (emptyV t d p mf)) ∧ GR (Sort.grow (W7.drewN n) os) w') :=
                        fun n os => empty_gr t _ d p mf _ (HD.out.keep (ext_trans HB7.out (gr_of W7 n os).below)) ⟨hrt.2.2.1, hrt.2.2.2⟩ hpd hmd hdr
                      generalize emptyV t d p mf = em at *
                      have f1 : ∀ n os, (Sort.grow (W7.drewN n) os).cell? ⟨M, 1, none⟩ = some (.int .i64 mf) := by
                        have := cell_grown (World.block_lt_of_cell? W7 _ hM7.c1) hM7.c1
                        rw [hmf] at this; exact this
                      have f2 : ∀ n os, (Sort.grow (W7.drewN n) os).cell? ⟨X, 2, none⟩ = some (.int .i64 x.start) := hX7.xg.c2
                      have f3 : ∀ n os, (Sort.grow (W7.drewN n) os).cell? ⟨K, 0, none⟩ = some (.string (bs t.name)) := cell_grown (World.block_lt_of_cell? W7 _ hK7.c0) hK7.c0
                      have f4 : ∀ n os, (Sort.grow (W7.drewN n) os).cell? ⟨K, 1, none⟩ = some (.int .i64 t.load) := cell_grown (World.block_lt_of_cell? W7 _ hK7.c1) hK7.c1
                      have f5 : ∀ n os, (Sort.grow (W7.drewN n) os).cell? ⟨K, 2, none⟩ = some (.int .i64 t.hours) := cell_grown (World.block_lt_of_cell? W7 _ hK7.c2) hK7.c2
                      have hpb : (0 : Int) ≤ p := by omega
                      have hwe : IntKind.i64.wrap (en + em) = en + em := IntWalk.i64_in _ (by omega)
                      have HM7 := Lib.hid hM7
                      have HX7 := Lib.hid hX7
                      clear hmf hM7 hX7 hK7 HOV
                      cases hlt3 : decide (x.start < en + em)
                      · have HO2 : Hid (ovB ms t d none (ownK o t 0) = ovB ms t d (some (m.to, x.fin)) (ownK o t (j + 1))) := by show _ = _; rw [HOV2.out, hlt3]; rfl
                        go_wp2_with fail
                        go_quiet_grown (exact Calls.grown_of (HE.out _ _))
                        have HG := Lib.hid (gr_of W7 nq osq)
                        generalize Sort.grow (W7.drewN nq) osq = w8 at *
                        have y2 : w8.cell? ⟨M, 2, none⟩ = some (.int .i64 m.to) := (HM7.out.keep HG.out.below).c2
                        have y3 : w8.cell? ⟨X, 3, none⟩ = some (.int .i64 x.fin) := (HX7.out.keep HG.out.below).c3
                        clear f1 f2 f3 f4 f5 hwe hlt3
                        go_wp2_with fail
                        go_quiet (fail)
                        go_wp2_with fail
                        go_roundw
                        case rel => exact ⟨j + 1, _, by omega, by go_num, below_drewN' (ext_trans HB27.out HG.out.below) _, STN.out, HO2.out⟩
                        case measure => simp [intOf]; omega
                      · have HR : Hid (chkTE ms tr d l = 19) := by
                          have hp : ovB ms t d none (ownK o t 0) = true := by rw [HOV2.out, hlt3]; rfl
                          have : (tr.any fun t => ovB ms t d none (ownK o t 0)) = true := HAT.out (by show ovB ms (tr.getD k default) d none _ = true; rw [HTK.out]; exact hp)
                          show _ = _; rw [HC5.out, this]; rfl
                        go_wp2_with fail
                        go_quiet_grown (exact Calls.grown_of (HE.out _ _))
                        have HG := Lib.hid (gr_of W7 nq osq)
                        generalize Sort.grow (W7.drewN nq) osq = w8 at *
                        clear f1 f2 f3 f4 f5 hwe
                        go_wp2_with fail
                        go_ret
                        exact ⟨ret_int HR.out.symm, ext_trans HB7.out HG.out.below⟩
                · have hjl : o.length ≤ j := by rw [HSL.out]; omega
                  have HN : Hid ((tr.take (k + 1)).any (fun t => ovB ms t d none (ownK o t 0)) = false) := by
                    have e1 : ovB ms t d none (ownK o t 0) = false := by
                      rw [hov.out, ownK_end _ _ hjl]
                      cases st <;> rfl
                    show _ = _
                    rw [HAN.out, hno.out, HTK.out, e1]; rfl
                  go_wp2_with fail
                  go_roundw
                  case rel => exact ⟨k + 1, by omega, by go_num, ext_trans HB2.out hb5.out, HSO2.out.keep hb5.out, HN.out⟩
                  case measure => simp [intOf]; omega
            · have HR : Hid (chkTE ms tr d l = 0) := by
                have : tr.any (fun t => ovB ms t d none (ownK o t 0)) = false := by
                  have := hno.out
                  rwa [List.take_of_length_le (by omega)] at this
                show _ = _; rw [HC5.out, this]; rfl
              go_wp2_with fail
              go_ret
              exact ⟨ret_int HR.out.symm, hb.out⟩
    · have HR : Hid (chkTE ms tr d l = 17) := by show _ = _; rw [HC2.out, if_pos hln]
      have hlb : ((l.length : Int) != (ms.length : Int)) = true := by rw [bne_iff_ne]; omega
      clear hln HC2
      go_enter Tryz.func6, Tryz.ntmps6
      go_wp2_with fail
      refine HCK.out.mono ?_
      rintro e w1 ⟨rfl, hb1⟩
      go_wp2_with fail
      go_ret
      exact ⟨ret_int HR.out.symm, hb1⟩
  · have HR : Hid (chkTE ms tr d l = y) := by show _ = _; rw [HC.out, if_pos hy]
    have hyb : (y != 0) = true := by simpa using hy
    clear HC hy HTR HOK
    go_enter Tryz.func6, Tryz.ntmps6
    go_wp2_with fail
    refine HCK.out.mono ?_
    rintro e w1 ⟨rfl, hb1⟩
    go_wp2_with fail
    go_ret
    exact ⟨ret_int HR.out.symm, hb1⟩
end Go.Proofs.YtpbmmdoodmbneaaGreatDoor
