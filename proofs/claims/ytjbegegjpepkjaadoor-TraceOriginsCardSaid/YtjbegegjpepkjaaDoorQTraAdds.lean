/- The law TraceAdds. -/
import Derived.Test.YtjbegegjpepkjaaDoorQTraNobody
namespace Go.Proofs.YtjbegegjpepkjaaDoor
open Go.RowKit Go.Maps

/-- the register behind some links -/
def addAll (l : List Lnk) : List Lnk := l.foldl (fun acc x => addL acc x.item x.frm x.heat x.tm) []
theorem addAll_snoc (l : List Lnk) (x : Lnk) : addAll (l ++ [x]) = addL (addAll l) x.item x.frm x.heat x.tm := by unfold addAll; rw [List.foldl_append]; rfl
theorem addAll_reg (l : List Lnk) : Reg (addAll l) ∧ (addAll l).length ≤ l.length := by
  rcases List.eq_nil_or_concat l with rfl | ⟨x, c, rfl⟩
  · exact ⟨Reg.nil, Nat.le_refl _⟩
  · rw [List.concat_eq_append, addAll_snoc]
    obtain ⟨h1, h2⟩ := addAll_reg x
    refine ⟨h1.addL _ _ _ _, ?_⟩
    unfold addL
    split <;> simp <;> omega
termination_by l.length
decreasing_by simp_all
theorem take_snoc {l : List Lnk} {k : Nat} {x : Lnk} (h : l[k]? = some x) : addAll (l.take (k + 1)) = addL (addAll (l.take k)) x.item x.frm x.heat x.tm := by
  obtain ⟨h1, h2⟩ := List.getElem?_eq_some_iff.1 h
  rw [List.take_succ_eq_append_getElem h1, h2, addAll_snoc]
theorem addL_hash {l : List Lnk} {item frm heat : List UInt8} {tm : Int} (h : ∀ x ∈ l, x.hash < 18446744073709551616) : ∀ x ∈ addL l item frm heat tm, x.hash < 18446744073709551616 := by
  intro x hx
  unfold addL at hx
  split at hx
  · rcases List.mem_append.1 hx with hx | hx
    · exact h x hx
    · rw [List.mem_singleton] at hx; subst hx; exact fnvL_lt _
  · exact h x hx
theorem addAll_hash (l : List Lnk) : ∀ x ∈ addAll l, x.hash < 18446744073709551616 := by
  rcases List.eq_nil_or_concat l with rfl | ⟨y, c, rfl⟩
  · intro x hx; simp [addAll] at hx
  · rw [List.concat_eq_append, addAll_snoc]; exact addL_hash (addAll_hash y)
termination_by l.length
decreasing_by simp_all
theorem LkAt.out {S : Nat → Prop} {w w' : World} {b off : Nat} {x : Lnk} (h : LkAt w b off x) (ho : Out S w w') (hb : ¬ S b) : LkAt w' b off x := by
  have hk : ∀ p v, w.cell? ⟨b, p, none⟩ = some v → w'.cell? ⟨b, p, none⟩ = some v := fun p v hc => (World.cell?_of_block (a := ⟨b, p, none⟩) (ho.block b (World.block_lt_of_cell? w _ hc) hb)).trans hc
  exact ⟨hk _ _ h.c0, hk _ _ h.c1, hk _ _ h.c2, hk _ _ h.c3, hk _ _ h.c4⟩
theorem SK.out {S : Nat → Prop} {w w' : World} {v : Value} {l : List Lnk} (h : SK w v l) (ho : Out S w w') (hb : ∀ g, v.ownBlock = some g → ¬ S g) : SK w' v l := by
  obtain ⟨a, cap, rfl, h1, h2, h3⟩ := h
  refine ⟨a, cap, rfl, h1, h2, fun i hi => ?_⟩
  obtain ⟨b, off, ha, hc⟩ := h3 i hi
  exact ⟨b, off, ha, hc.out ho (hb b (by rw [ha]; rfl))⟩
theorem orgF_head (l : List Lnk) (y : Lnk) : ∃ r, orgF l y = y :: r := by
  unfold orgF
  cases l.length with
  | zero => exact ⟨[], rfl⟩
  | succ n =>
    rw [orgs]
    split
    · exact ⟨[], rfl⟩
    · split
      · exact ⟨_, rfl⟩
      · exact ⟨[], rfl⟩
/-- what is known of the reference's list -/
def OwnS (S : Nat → Prop) (w : World) (o : Value) (l : List Lnk) : Prop := SK w o l ∧ (o = .slice none 0 0 ∨ ∃ ad n c, o = .slice (some ad) n c) ∧ ∀ g, o.ownBlock = some g → ¬ S g ∧ g < w.heap.size

theorem OwnS.keep {S : Nat → Prop} {w w' : World} {o : Value} {l : List Lnk} (h : OwnS S w o l) (hb : Below w.heap.size w w') : OwnS S w' o l :=
  ⟨h.1.keep hb, h.2.1, fun g hg => ⟨(h.2.2 g hg).1, Nat.lt_of_lt_of_le (h.2.2 g hg).2 hb.size⟩⟩
theorem rSameK_yes (v u : Value) (l : List Lnk) (w : World) (h : SK w v l) (g : SK w u l) : Calls Tryd.prog 17 #[v, u] w fun e w' => e = .returned (.bool true) ∧ Below w.heap.size w w' := by
  refine (rSameK_any v u l l w h g).mono ?_
  rintro e w' ⟨rfl, m, rfl⟩
  exact ⟨ret_bool (decide_eq_true rfl), below_drewN' (Below.refl _ _) m⟩
set_option maxHeartbeats 8000000 in
set_option maxRecDepth 100000 in
theorem Adds_any (v : Value) (l : List Lnk) (w : World) (hV : Vars w) (h : ArgK w v l) : Calls Tryd.prog 3 #[v] w (Ret w (.bool true)) := by
  have HV := Lib.hid hV
  have H := Lib.hid h
  obtain ⟨a, cap, rfl, n1, n2, n3⟩ := h.1
  have N3 := Lib.hid n3
  unfold maxLen at n2
  clear hV h n3
  go_enter Tryd.func3, Tryd.ntmps3
  go_wp2_with fail
  refine H.out.great.mono ?_
  rintro e w1 ⟨rfl, rfl⟩
  cases hg : greatB l
  rotate_left
  · clear hg
    go_wp2_with fail
    refine (alive30_any _ HV.out).mono ?_
    rintro e w1 ⟨rfl, hb1⟩
    have HB1 := Lib.hid hb1
    clear hb1
    go_wp2_with fail
    go_ret
    exact ⟨rfl, HB1.out⟩
  obtain ⟨h40, hsz⟩ := H.out.sized hg
  have HSZ := Lib.hid hsz
  clear hg hsz
  go_wp2_with fail
  refine (New_any _).mono ?_
  rintro e w1 ⟨rb, rfl, ⟨bm, vr, D, hreg⟩, hb⟩
  have HB1 := Lib.hid hb
  have HR1 : Hid (RegS (RB rb bm vr) w.heap.size rb (addAll (l.take 0)) w1) := by show RegS _ _ _ _ _; rw [List.take_zero]; exact ⟨bm, vr, D, hreg, rfl⟩
  clear hreg hb
  go_wp2_with fail
  go_loopw [4, 5] (fun o i wr => ∃ (k : Nat) (S : Nat → Prop), k ≤ l.length ∧ i = .int .i64 k ∧ Hid (OwnS S wr o (addAll (l.take k))) ∧ Hid (RegS S w.heap.size rb (addAll (l.take k)) wr) ∧ Hid (Below w.heap.size w wr)) (fun _ i _ => l.length - (intOf i).toNat)
  case atStart => exact ⟨0, _, Nat.zero_le _, rfl, ⟨by rw [List.take_zero]; exact SK_nil _, .inl rfl, fun g hg => by simp [Value.ownBlock] at hg⟩, HR1.out, HB1.out⟩
  case round =>
    obtain ⟨k, S, hk, rfl, how, hr, hbw⟩ := hrel
    by_cases hlt : k < l.length
    · obtain ⟨b, off, ha, hc0⟩ := N3.out k hlt
      have hc := hc0.keep hbw.out
      subst ha
      have hki : l[k]? = some (ki l k) := by rw [ki_lt hlt]; exact List.getElem?_eq_getElem hlt
      generalize ki l k = x at *
      have HKI := Lib.hid hki
      obtain ⟨z1, z2, z3, z4⟩ := HSZ.out x (List.mem_of_getElem? hki)
      have c0 := hc.c0
      have c1 := hc.c1
      have c2 := hc.c2
      have c3 := hc.c3
      have c4 := hc.c4
      have hbl : b < wr.heap.size := World.block_lt_of_cell? wr _ c0
      have hws := hbw.out.size
      have HBX : Hid (Below w.heap.size w (wr.alloc (.cells #[.string (bs x.item), .string (bs x.frm), .string (bs x.heat), .int .i64 x.tm, .int .u64 x.hash] 29))) := hbw.out.alloc hws _
      have hax : Below wr.heap.size wr (wr.alloc (.cells #[.string (bs x.item), .string (bs x.frm), .string (bs x.heat), .int .i64 x.tm, .int .u64 x.hash] 29)) := (Below.refl _ wr).alloc (Nat.le_refl _) _
      have hrx := hr.out.keep hax
      have hskx := how.out.1.keep hax
      have hlt2 : ∀ g, u4.ownBlock = some g → ¬ S g ∧ g < (wr.alloc (.cells #[.string (bs x.item), .string (bs x.frm), .string (bs x.heat), .int .i64 x.tm, .int .u64 x.hash] 29)).heap.size := fun g hg => ⟨(how.out.2.2 g hg).1, Nat.lt_of_lt_of_le (how.out.2.2 g hg).2 hax.size⟩
      have hadd := Add_any S w.heap.size rb (addAll (l.take k)) (bs x.item) (bs x.frm) (bs x.heat) x.tm _ hrx (HV.out.keep HBX.out) (by rw [bs_size]; unfold maxLen; omega) (by rw [bs_size]; unfold maxLen; omega) (by rw [bs_size]; unfold maxLen; omega)
      rw [bs_list, bs_list, bs_list] at hadd
      have hlk := LkB.new wr x
      have HADD := Lib.hid hadd
      have HRX := Lib.hid hrx
      have HSX := Lib.hid hskx
      have HLX := Lib.hid hlt2
      have HLK := Lib.hid hlk
      obtain ⟨P1, P2⟩ := addAll_reg (l.take k)
      have hPl : (addAll (l.take k)).length ≤ 40 := by rw [List.length_take] at P2; omega
      have HP1 := Lib.hid P1.prop
      have HH1 := Lib.hid (addAll_hash (l.take k))
      have HNX := Lib.hid (take_snoc hki)
      obtain ⟨Q1, Q2⟩ := addAll_reg (l.take (k + 1))
      have hQl : (addAll (l.take (k + 1))).length ≤ 41 := by rw [List.length_take] at Q2; omega
      have HQ1 := Lib.hid Q1.prop
      obtain ⟨c, hcc⟩ : ∃ c, addE (addAll (l.take k)) x.item x.frm x.heat x.tm = c := ⟨_, rfl⟩
      obtain ⟨hh, hhh⟩ : ∃ hh, addH (addAll (l.take k)) x.item x.frm x.heat x.tm = hh := ⟨_, rfl⟩
      have HCC := Lib.hid hcc
      have HHH := Lib.hid hhh
      obtain ⟨oa, on, oc, eo⟩ : ∃ a n c, u4 = .slice a n c := by obtain ⟨a, c, e, _⟩ := how.out.1; exact ⟨_, _, _, e⟩
      have HNIL := Lib.hid how.out.2.1
      subst eo
      clear hadd hrx hlk hki hc hc0 hcc hhh hskx hlt2 hax P1 P2 Q1 Q2
      go_wp2_with fail
      refine HADD.out.mono ?_
      rintro e w2 ⟨S2, rfl, hr2, hS2, ho2⟩
      rw [HCC.out, HHH.out]
      have hB2 := ho2.base (fun k hk => (HRX.out.lt k hk).1) HBX.out.size
      have HB2 : Hid (Below w.heap.size w w2) := HBX.out.trans hB2
      have hlk2 : LkB w2 wr.heap.size x := by
        unfold LkB
        rw [ho2.block wr.heap.size HLK.out.lt (fun e => by have := (hr.out.lt _ e).2; omega)]
        exact HLK.out
      have hsk2 : SK w2 (.slice oa on oc) (addAll (l.take k)) := HSX.out.out ho2 (fun g hg => (HLX.out g hg).1)
      have HL2 : Hid (∀ g, (Value.slice oa on oc).ownBlock = some g → ¬ S2 g ∧ g < w2.heap.size) := fun g hg => ⟨fun e => by
        rcases hS2 g e with e2 | e2
        · exact (HLX.out g hg).1 e2
        · have := (HLX.out g hg).2; omega, Nat.lt_of_lt_of_le (HLX.out g hg).2 ho2.size⟩
      rw [← HNX.out] at hr2
      have HR2 := Lib.hid hr2
      have HLK2 := Lib.hid hlk2
      have hrad := rAdd_any (.slice oa on oc) (addAll (l.take k)) (bs x.item) (bs x.frm) (bs x.heat) x.tm w2 hsk2 HNIL.out HP1.out (by omega) HH1.out (by rw [bs_size]; omega) (by rw [bs_size]; omega) (by rw [bs_size]; omega)
      rw [bs_list, bs_list, bs_list] at hrad
      have HRAD := Lib.hid hrad
      obtain ⟨d0, d1, d2, d3, d4⟩ := hlk2.at
      have hx2 : wr.heap.size < w2.heap.size := hlk2.lt
      clear hr2 hS2 ho2 hB2 hlk2 HADD HRX HSX HLX HLK hsk2 hrad c0 c1 c2 c3 c4
      go_wp2_with fail
      refine HRAD.out.mono ?_
      rintro e w3 ⟨v3, rfl, hs3, ho3, hb3⟩
      rw [HCC.out, HHH.out, ← HNX.out] at *
      have HB3 : Hid (Below w.heap.size w w3) := HB2.out.trans (hb3.mono HB2.out.size)
      have HR3 := Lib.hid (HR2.out.keep hb3)
      have HLK3 := Lib.hid (HLK2.out.keep hb3)
      have HOS : Hid (OwnS S2 w3 v3 (addAll (l.take (k + 1)))) := by
        refine ⟨hs3, ?_, fun g hg => ?_⟩
        · rcases ho3 with e | e
          · rw [e]; exact HNIL.out
          · rcases e.2 with ⟨e, _⟩ | ⟨_, _, _, e, _⟩
            · exact .inl e
            · exact .inr ⟨_, _, _, e⟩
        · rcases ho3 with e | e
          · rw [e] at hg
            exact ⟨(HL2.out g hg).1, Nat.lt_of_lt_of_le (HL2.out g hg).2 hb3.size⟩
          · obtain ⟨g1, g2⟩ := e.lt g hg
            exact ⟨fun e2 => by have := (HR2.out.lt g e2).2; omega, g2⟩
      obtain ⟨oa3, on3, oc3, eo3⟩ : ∃ a n c, v3 = .slice a n c := by obtain ⟨a, c, e, _⟩ := hs3; exact ⟨_, _, _, e⟩
      subst eo3
      clear hs3 ho3 hb3 HRAD d0 d1 d2 d3 d4
      have hzi : (bs x.item).size ≤ maxLen := by rw [bs_size]; unfold maxLen; omega
      have HZI := Lib.hid hzi
      generalize hMe : addAll (l.take (k + 1)) = M at *
      have HME := Lib.hid hMe
      clear hMe
      clear hzi HH1 HP1 hPl HCC HHH HNX HL2 HNIL HLK2 HKI
      obtain ⟨e0, e1, e2, e3, e4⟩ := HLK3.out.at
      have hx3 : wr.heap.size < w3.heap.size := HLK3.out.lt
      cases hf : fnd M x.item with
      | some y =>
        have HO1 := Lib.hid (Origin_yes w.heap.size rb M (bs x.item) w3 HR3.out.reg HZI.out y (by rw [bs_list]; exact hf))
        have HF := Lib.hid hf
        clear hf
        go_wp2_with fail
        refine HO1.out.mono ?_
        rintro e w4 ⟨va, rfl, hoa, hb4⟩
        obtain ⟨aa, an, ac, ea, _⟩ := hoa.shape
        subst ea
        have HB34 := Lib.hid hb4
        have HOA := Lib.hid hoa.sk
        obtain ⟨f0, f1, f2, f3, f4⟩ := (HLK3.out.keep hb4).at
        have hx4 : wr.heap.size < w4.heap.size := Nat.lt_of_lt_of_le hx3 hb4.size
        have HO2 := Lib.hid (rOrigin_yes _ M (bs x.item) w4 (HOS.out.1.keep hb4) HQ1.out (by omega) y (by rw [bs_list]; exact HF.out))
        clear hoa hb4 HO1 e0 e1 e2 e3 e4
        go_wp2_with fail
        refine HO2.out.mono ?_
        rintro e w5 ⟨vb, rfl, hob, hb5⟩
        obtain ⟨rest, hrest⟩ := orgF_head M y
        have hobs := hob.sk
        obtain ⟨a', cp, eb, m1, m2, m3⟩ := hobs
        have hlen0 : 0 < (orgF M y).length := by rw [hrest]; simp
        obtain ⟨gb, gof, ga, hlkb⟩ := m3 0 hlen0
        subst ga
        subst eb
        have hh0 : ki (orgF M y) 0 = y := by rw [hrest]; rfl
        rw [hh0] at hlkb
        have HLB := Lib.hid hlkb
        have HOB := Lib.hid hob.sk
        have HB45 := Lib.hid hb5
        have HB35 := Lib.hid (ext_trans HB34.out hb5)
        obtain ⟨g0, g1, g2, g3, g4⟩ := (HLK3.out.keep HB35.out).at
        have hx5 : wr.heap.size < w5.heap.size := Nat.lt_of_lt_of_le hx4 hb5.size
        obtain ⟨nb, hnb⟩ : ∃ nb, (orgF M y).length = nb := ⟨_, rfl⟩
        rw [hnb] at hlen0 m1 HOB ⊢
        have HHT := Lib.hid (Heat_yes w.heap.size rb M (bs x.item) w5 (HR3.out.keep HB35.out).reg HZI.out y (by rw [bs_list]; exact HF.out))
        unfold maxLen at m2
        clear hob hb5 HO2 m3 hlkb hh0 hrest f0 f1 f2 f3 f4 hnb
        go_wp2_with fail
        refine HHT.out.mono ?_
        rintro e w6 ⟨rfl, hb6⟩
        have HB36 := Lib.hid (ext_trans HB35.out hb6)
        have HB46 := Lib.hid (ext_trans HB45.out hb6)
        have HB56 := Lib.hid hb6
        have HLI := Lib.hid (Links_any w.heap.size rb M w6 (HR3.out.keep HB36.out).reg)
        clear hb6 HHT g0 g1 g2 g3 g4
        go_wp2_with fail
        refine HLI.out.mono ?_
        rintro e w7 ⟨v7, rfl, ho7, hb7⟩
        obtain ⟨a7, n7, c7, e7, _⟩ := ho7.shape
        subst e7
        have HB37 := Lib.hid (ext_trans HB36.out hb7)
        have HB47 := Lib.hid (ext_trans HB46.out hb7)
        have HB57 := Lib.hid (ext_trans HB56.out hb7)
        have HSM := Lib.hid (rSameK_yes _ _ M w7 ho7.sk (HOS.out.1.keep HB37.out))
        clear ho7 hb7 HLI
        go_wp2_with fail
        refine HSM.out.mono ?_
        rintro e w8 ⟨rfl, hb8⟩
        have HB38 := Lib.hid (ext_trans HB37.out hb8)
        have HSM2 := Lib.hid (rSameK_yes _ _ (orgF M y) w8 (HOA.out.keep (ext_trans HB47.out hb8)) (HOB.out.keep (ext_trans HB57.out hb8)))
        have HB58 := Lib.hid (ext_trans HB57.out hb8)
        clear hb8 HSM
        go_wp2_with fail
        refine HSM2.out.mono ?_
        rintro e w9 ⟨rfl, hb9⟩
        have HB39 := Lib.hid (ext_trans HB38.out hb9)
        have hc2 := (HLB.out.keep (ext_trans HB58.out hb9)).c2
        simp only [Nat.zero_mul, Nat.add_zero] at hc2
        have i1 : (0 : Int) < (nb : Int) := by omega
        clear hb9 HSM2
        go_wp2_with fail
        go_roundw
        case rel => exact ⟨k + 1, S2, by omega, by go_num, by show OwnS _ _ _ _; rw [HME.out]; exact HOS.out.keep HB39.out, by show RegS _ _ _ _ _; rw [HME.out]; exact HR3.out.keep HB39.out, HB3.out.trans (HB39.out.mono HB3.out.size)⟩
        case measure => simp [intOf]; omega
      | none =>
        have HO1 := Lib.hid (Origin_no w.heap.size rb M (bs x.item) w3 HR3.out.reg HZI.out (by rw [bs_list]; exact hf))
        have HF := Lib.hid hf
        clear hf
        go_wp2_with fail
        refine HO1.out.mono ?_
        rintro e w4 ⟨rfl, hb4⟩
        have HB34 := Lib.hid hb4
        obtain ⟨f0, f1, f2, f3, f4⟩ := (HLK3.out.keep hb4).at
        have hx4 : wr.heap.size < w4.heap.size := Nat.lt_of_lt_of_le hx3 hb4.size
        have HO2 := Lib.hid (rOrigin_no _ M (bs x.item) w4 (HOS.out.1.keep hb4) (by rw [bs_list]; exact HF.out))
        clear hb4 HO1 e0 e1 e2 e3 e4
        go_wp2_with fail
        refine HO2.out.mono ?_
        rintro e w5 ⟨rfl, hb5⟩
        have HB35 := Lib.hid (ext_trans HB34.out hb5)
        obtain ⟨g0, g1, g2, g3, g4⟩ := (HLK3.out.keep HB35.out).at
        have hx5 : wr.heap.size < w5.heap.size := Nat.lt_of_lt_of_le hx4 hb5.size
        have HHT := Lib.hid (Heat_no w.heap.size rb M (bs x.item) w5 (HR3.out.keep HB35.out).reg HZI.out (by rw [bs_list]; exact HF.out))
        clear hb5 HO2 f0 f1 f2 f3 f4
        go_wp2_with fail
        refine HHT.out.mono ?_
        rintro e w6 ⟨rfl, hb6⟩
        have HB36 := Lib.hid (ext_trans HB35.out hb6)
        have HLI := Lib.hid (Links_any w.heap.size rb M w6 (HR3.out.keep HB36.out).reg)
        clear hb6 HHT g0 g1 g2 g3 g4
        go_wp2_with fail
        refine HLI.out.mono ?_
        rintro e w7 ⟨v7, rfl, ho7, hb7⟩
        obtain ⟨a7, n7, c7, e7, _⟩ := ho7.shape
        subst e7
        have HB37 := Lib.hid (ext_trans HB36.out hb7)
        have HSM := Lib.hid (rSameK_yes _ _ M w7 ho7.sk (HOS.out.1.keep HB37.out))
        clear ho7 hb7 HLI
        go_wp2_with fail
        refine HSM.out.mono ?_
        rintro e w8 ⟨rfl, hb8⟩
        have HB38 := Lib.hid (ext_trans HB37.out hb8)
        clear hb8 HSM
        go_wp2_with fail
        refine (rSameK_yes _ _ [] w8 (SK_nil _) (SK_nil _)).mono ?_
        rintro e w9 ⟨rfl, hb9⟩
        have HB39 := Lib.hid (ext_trans HB38.out hb9)
        clear hb9
        go_wp2_with fail
        go_roundw
        case rel => exact ⟨k + 1, S2, by omega, by go_num, by show OwnS _ _ _ _; rw [HME.out]; exact HOS.out.keep HB39.out, by show RegS _ _ _ _ _; rw [HME.out]; exact HR3.out.keep HB39.out, HB3.out.trans (HB39.out.mono HB3.out.size)⟩
        case measure => simp [intOf]; omega
    · obtain rfl : k = l.length := by omega
      go_wp2_with fail
      refine (alive30_any _ (HV.out.keep hbw.out)).mono ?_
      rintro e w3 ⟨rfl, hb1⟩
      have HB3 := Lib.hid (ext_trans hbw.out hb1)
      clear hb1
      go_wp2_with fail
      go_ret
      exact ⟨rfl, HB3.out⟩
end Go.Proofs.YtjbegegjpepkjaaDoor
