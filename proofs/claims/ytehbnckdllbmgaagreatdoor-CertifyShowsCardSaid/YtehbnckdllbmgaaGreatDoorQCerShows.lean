/- The law CertifyShows. -/
import Derived.Test.YtehbnckdllbmgaaGreatDoorCerOp
import Derived.Test.YtehbnckdllbmgaaGreatDoorCerLP
import Derived.Test.YtehbnckdllbmgaaGreatDoorCerW
set_option linter.unusedSimpArgs false
set_option linter.unusedVariables false
namespace Go.Proofs.YtehbnckdllbmgaaGreatDoor
open Go.RowKit

def sh12d (i : Nat) : Nat := if i = 10 then 7 else i + 60
def sh12P (a : Option Addr) (lc : Nat) (lf : List Int) (k B : Nat) : Nat → Value → World → Prop
  | 0, v, w => OwnI w B v []
  | 1, v, _ => v = .slice a lf.length lc
  | 2, v, _ => v = .int .i64 k
  | 3, v, _ => v = .slice a k lc
  | 4, v, w => OwnI w B v (lf.take k)
  | 5, v, _ => v = .slice a lf.length lc
  | 6, v, _ => v = .int .i64 k
  | 7, v, _ => v = .int .i64 (k + 1 : Nat)
  | 8, v, _ => (lc = k + 1 ∧ v = .slice a (lf.length - (k + 1)) 0) ∨ v = .slice (Option.map (fun x => x.add (k + 1)) a) (lf.length - (k + 1)) (lc - (k + 1))
  | 9, v, w => OwnI w B v (lf.take k ++ lf.drop (k + 1))
  | _, _, _ => True
def sh12C (i j : Nat) : Bool := (i == 4 && j == 0) || (i == 9 && (j == 0 || j == 4))
def sh12D (j i : Nat) : Bool := j == 9 && i == 4
theorem sh12_mono {a : Option Addr} {lc : Nat} {lf : List Int} {k B : Nat} {w w' : World} (hb : Below w.heap.size w w') : ∀ i v, sh12P a lc lf k B i v w → sh12P a lc lf k B i v w'
  | 0, _, h => OwnI.below h hb | 1, _, h => h | 2, _, h => h | 3, _, h => h | 4, _, h => OwnI.below h hb | 5, _, h => h | 6, _, h => h | 7, _, h => h | 8, _, h => h | 9, _, h => OwnI.below h hb | _ + 10, _, _ => trivial
theorem sh12_app4 {a : Option Addr} {lc : Nat} {lf : List Int} {k B : Nat} {w w' : World} : ∀ i v, i ≠ 4 → sh12C 4 i = false → sh12D i 4 = false → sh12P a lc lf k B i v w → sh12P a lc lf k B i v w'
  | 0, _, _, hc, _, _ => (by cases hc) | 1, _, _, _, _, h => h | 2, _, _, _, _, h => h | 3, _, _, _, _, h => h | 4, _, h4, _, _, _ => absurd rfl h4 | 5, _, _, _, _, h => h | 6, _, _, _, _, h => h | 7, _, _, _, _, h => h | 8, _, _, _, _, h => h | 9, _, _, _, hd, _ => (by cases hd) | _ + 10, _, _, _, _, _ => trivial
theorem sh12_app9 {a : Option Addr} {lc : Nat} {lf : List Int} {k B : Nat} {w w' : World} : ∀ i v, i ≠ 9 → sh12C 9 i = false → sh12P a lc lf k B i v w → sh12P a lc lf k B i v w'
  | 0, _, _, hc, _ => (by cases hc) | 1, _, _, _, h => h | 2, _, _, _, h => h | 3, _, _, _, h => h | 4, _, _, hc, _ => (by cases hc) | 5, _, _, _, h => h | 6, _, _, _, h => h | 7, _, _, _, h => h | 8, _, _, _, h => h | 9, _, h9, _, _ => absurd rfl h9 | _ + 10, _, _, _, _ => trivial

/-- the boxed numbers -/
structure Bx3 (w : World) (x0 x1 x2 : Int) (W : World) : Prop where
  hb : Below w.heap.size w W
  sz : w.heap.size < W.heap.size
  c0 : W.cell? ⟨w.heap.size, 0, none⟩ = some (.int .i64 x0)
  c1 : W.cell? ⟨w.heap.size, 1, none⟩ = some (.int .i64 x1)
  c2 : W.cell? ⟨w.heap.size, 2, none⟩ = some (.int .i64 x2)
theorem Bx3.start (w : World) (x0 x1 x2 : Int) (e : TypeId) : Bx3 w x0 x1 x2 (w.alloc (.cells #[.int .i64 x0, .int .i64 x1, .int .i64 x2] e)) :=
  ⟨(Below.refl _ _).alloc (Nat.le_refl _) _, by simp, by simp, by simp, by simp⟩
theorem Bx3.keep {w W W' : World} {x0 x1 x2 : Int} (h : Bx3 w x0 x1 x2 W) (hb : Below W.heap.size W W') : Bx3 w x0 x1 x2 W' :=
  ⟨ext_trans h.hb hb, Nat.lt_of_lt_of_le h.sz hb.size, cell_keep hb h.c0, cell_keep hb h.c1, cell_keep hb h.c2⟩

def lenOf : Value → Nat
  | .slice _ n _ => n
  | _ => 0
theorem OwnI.lenOf {w : World} {B : Nat} {v : Value} {r : List Int} (h : OwnI w B v r) : lenOf v = r.length := by
  obtain ⟨a, n, c, rfl⟩ := h.sl
  exact h.si.nn.1
theorem u64_in {x : Int} (h0 : 0 ≤ x) (h1 : x < 18446744073709551616) : IntKind.u64.wrap x = x := by
  unfold IntKind.wrap
  simp [IntKind.signed, IntKind.bits]
  omega
theorem u64_nat (x : Int) : ∃ P : Nat, IntKind.u64.wrap x = P ∧ P < 18446744073709551616 := by
  have h : 0 ≤ IntKind.u64.wrap x ∧ IntKind.u64.wrap x < 18446744073709551616 := by
    unfold IntKind.wrap
    simp [IntKind.signed, IntKind.bits]
    omega
  exact ⟨(IntKind.u64.wrap x).toNat, by omega, by omega⟩

set_option maxHeartbeats 4000000 in
set_option maxRecDepth 100000 in
theorem Shows_any (v u : Value) (p : List (List Int)) (L : List Cut) (x0 x1 x2 : Int) (w : World) (h : SS w v p) (hl : SC w u L) (hV : VarsC w) :
    Calls Tryz.prog 7 #[v, u, .agg #[.int .i64 x0, .int .i64 x1, .int .i64 x2]] w (Ret w (.bool true)) := by
  have HV := Lib.hid hV; have H := Lib.hid h; have HL := Lib.hid hl
  have HA : Hid (∀ W, Below w.heap.size w W → Calls Tryz.prog 14 #[] W (Ret W (.bool true))) := Lib.hid fun W hW => awake_any W (HV.out.keep hW)
  obtain ⟨vs, ⟨pa, pc, rfl, p1, p2, _⟩, _⟩ := h
  obtain ⟨la, lc, rfl, l1, l2, _⟩ := hl
  clear hV
  have HX0 := Lib.hid (Bx3.start w x0 x1 x2 41)
  go_enter Tryz.func7, Tryz.ntmps7
  go_wp2_with fail
  obtain ⟨W0, hW0⟩ : ∃ W0, W0 = w.alloc (.cells #[.int .i64 x0, .int .i64 x1, .int .i64 x2] 41) := ⟨_, rfl⟩
  rw [← hW0] at HX0 ⊢
  clear hW0
  refine (Small_any _ p W0 (H.out.keep HX0.out.hb)).mono ?_
  rintro e w1 ⟨rfl, m1, rfl⟩
  have HX1 := Lib.hid (HX0.out.keep (below_drewN' (Below.refl W0.heap.size W0) m1))
  cases hs : smallB p
  · go_wp2_with fail
    refine (HA.out _ HX1.out.hb).mono ?_
    rintro e w2 ⟨rfl, hb⟩
    have HX2 := Lib.hid (HX1.out.keep hb)
    clear hb
    go_wp2_with fail
    go_ret
    exact ⟨rfl, HX2.out.hb⟩
  have HS := Lib.hid (smallB_len hs)
  clear hs
  go_wp2_with fail
  refine (Few_any _ L _ (HL.out.keep HX1.out.hb)).mono ?_
  rintro e w2 ⟨rfl, m2, rfl⟩
  have HX2 := Lib.hid (HX1.out.keep (below_drewN' (Below.refl (W0.drewN m1).heap.size (W0.drewN m1)) m2))
  simp only [World.drewN_drewN] at HX2 ⊢
  cases hf : fewB L
  · go_wp2_with fail
    refine (HA.out _ HX2.out.hb).mono ?_
    rintro e w2 ⟨rfl, hb⟩
    have HX3 := Lib.hid (HX2.out.keep hb)
    clear hb
    go_wp2_with fail
    go_ret
    exact ⟨rfl, HX3.out.hb⟩
  clear hf
  have y0 := HX2.out.c0
  go_wp2_with fail
  refine (Check_any _ _ p x0 L _ (H.out.keep HX2.out.hb) (HL.out.keep HX2.out.hb) (by have := HS.out; omega)).mono ?_
  rintro e w3 ⟨rfl, hb⟩
  have HX3 := Lib.hid (HX2.out.keep hb)
  clear hb y0
  by_cases hE : checkV p x0 L = 0
  rotate_left
  · have e0 : (checkV p x0 L != 0) = true := by rw [bne_iff_ne]; exact hE
    go_wp2_with fail
    refine (HA.out _ HX3.out.hb).mono ?_
    rintro e w2 ⟨rfl, hb⟩
    have HX4 := Lib.hid (HX3.out.keep hb)
    clear hb
    go_wp2_with fail
    go_ret
    exact ⟨rfl, HX4.out.hb⟩
  have HE := Lib.hid hE
  rw [hE]
  clear hE
  have hm : p.length ≤ 40 := HS.out
  go_wp2_with fail
  go_loopw [7, 9] (fun v i wr => ∃ k : Nat, k ≤ p.length ∧ i = .int .i64 k ∧ Hid (Below w3.heap.size w3 wr) ∧ Hid (OwnI wr w3.heap.size v (rangeI k))) (fun _ i _ => p.length - (intOf i).toNat)
  case atStart => exact ⟨0, Nat.zero_le _, rfl, Below.refl _ _, OwnI_nil _ _⟩
  case round =>
    obtain ⟨k, hk, rfl, hbw, how⟩ := hrel
    by_cases hlt : k < p.length
    · have hrl := rangeI_length k
      have hsb := hbw.out.size
      have HRS := Lib.hid (rangeI_succ k)
      go_wp2_with (at_builtin; refine wpList_app_int rfl (.tmp 37) (.tmp 39) rfl w3.heap.size _ _ (rangeI k) [(k : Int)] rfl rfl (how.out.alloc _) (SI_one _ _ _) (by simp; omega) (by simp; omega) ?_)
      intro va w2 hoa hga _
      have hba : Below w3.heap.size w3 w2 := (hbw.out.alloc hsb _).grown hga (by simp; omega) (fun k hk => (World.ownsRow.lt how.out k hk).1)
      rw [← HRS.out] at hoa
      have HO := Lib.hid hoa
      have HBA := Lib.hid hba
      clear hoa hba hga
      go_wp2_with fail
      go_roundw
      case rel => exact ⟨k + 1, by omega, by go_num, HBA, HO⟩
      case measure => simp [intOf]; omega
    · have hkp : k = p.length := by omega
      subst hkp
      have HX4 := Lib.hid (HX3.out.keep hbw.out)
      have y1 := HX4.out.c1
      go_wp2_with fail
      obtain ⟨P0, hP0, hP1⟩ := u64_nat x1
      rw [hP0]
      clear y1 hP0
      have HB4 := Lib.hid hbw.out
      go_loopw [7, 8, 10, 11] (fun lv ov pk _ wr2 => ∃ (lf od : List Int) (P : Nat), pk = .int .u64 P ∧ P < 18446744073709551616 ∧ Hid (Below w3.heap.size w3 wr2) ∧ Hid (OwnI wr2 w3.heap.size lv lf) ∧ Hid (OwnI wr2 w3.heap.size ov od) ∧ Hid (WholeN p.length (od ++ lf)) ∧ lenOf lv = lf.length ∧ Hid (∀ g, ov.ownBlock = some g → lv.ownBlock ≠ some g)) (fun lv _ _ _ _ => lenOf lv)
      case atStart => exact ⟨rangeI p.length, [], P0, rfl, hP1, hbw, how, OwnI_nil _ _, whole_range _, how.out.lenOf, fun g hg => by cases hg⟩
      case round =>
        obtain ⟨lf, od, P, rfl, hP, hbw2, hlv, hov, hwh, hlen, hne⟩ := hrel
        obtain ⟨la2, ln2, lc2, rfl⟩ := hlv.out.sl
        obtain ⟨n1, n2, n3⟩ := hlv.out.si.nn
        subst n1
        have hfl : lf.length ≤ p.length := by have := hwh.out.2; rw [List.length_append] at this; omega
        by_cases hpos : 0 < lf.length
        · obtain ⟨k, hk⟩ : ∃ k, k = P % lf.length := ⟨_, rfl⟩
          have hkl : k < lf.length := by rw [hk]; exact Nat.mod_lt _ hpos
          have ht : Int.tmod (P : Int) (lf.length : Int) = (k : Int) := by rw [Int.tmod_eq_emod_of_nonneg (Int.natCast_nonneg P)]; omega
          clear hk
          have hw1 : IntKind.u64.wrap (lf.length : Int) = (lf.length : Int) := u64_in (by omega) (by omega)
          have hw2 : IntKind.i64.wrap (k : Int) = (k : Int) := IntWalk.i64_in _ (by omega)
          have hpd : decide ((0 : Int) < lf.length) = true := by rw [decide_eq_true_eq]; omega
          have hz0 : ((lf.length : Int) == 0) = false := by rw [beq_eq_false_iff_ne]; omega
          have hz1 : (lf.length : Int) ≠ 0 := by omega
          obtain ⟨_, _, hue, u1, u2, u3⟩ := hlv.out.si
          simp only [Value.slice.injEq] at hue
          obtain ⟨rfl, _, rfl⟩ := hue
          obtain ⟨sb, so, rfl, cx⟩ := u3 k hkl
          replace cx : wr.cell? ⟨sb, so + k, none⟩ = some (.int .i64 (gi lf k)) := cx
          clear u3
          obtain ⟨oa, on, oc, rfl⟩ := hov.out.sl
          have hsb := hbw2.out.size
          have hol : od.length ≤ p.length := by have := hwh.out.2; rw [List.length_append] at this; omega
          go_wp2_with (at_builtin; refine wpList_app_int rfl (.tmp 53) (.tmp 58) rfl w3.heap.size _ _ od [gi lf k] rfl rfl (hov.out.alloc _) (SI_one _ _ _) (by simp; omega) (by simp; omega) ?_)
          intro va w2 hoa hga hat
          have hbA := (below_alloc (Below.refl wr.heap.size wr) (.cells #[.int .i64 (gi lf k)] 3))
          have hb2 : Below w3.heap.size w3 w2 := (hbw2.out.alloc hsb _).grown hga (by simp; omega) (fun k hk => (World.ownsRow.lt hov.out k hk).1)
          have hlv2 : OwnI w2 w3.heap.size (.slice (some ⟨sb, so, none⟩) lf.length lc2) lf := World.ownsRow.kept (hlv.out.alloc _) hga (by
            cases hq : (Value.slice oa on oc).ownBlock with
            | none =>
              by_cases hn : (Value.slice (some ⟨sb, so, none⟩) lf.length lc2).ownBlock = none
              · exact .inl hn
              · exact .inr hn
            | some g => exact .inr (hne.out g hq))
          obtain ⟨pa2, pn2, pc2, rfl⟩ := hoa.sl
          have HVA : Hid (∀ g, (Value.slice pa2 pn2 pc2).ownBlock = some g → g < w2.heap.size) := Lib.hid fun g hg => (World.ownsRow.lt hoa g hg).2
          have HOA := Lib.hid hoa; have HB2 := Lib.hid hb2; have HLV2 := Lib.hid hlv2
          clear hoa hb2 hlv2 hga hat cx hbA
          go_wp2_with fail
          have hbs := HB2.out.size
          refine wp_name fun a0 ha0 => ?_
          have z7 : a0.eval (.tmp 7) = .slice (some ⟨sb, so, none⟩) lf.length lc2 := by rw [ha0]; rfl
          have z11 : a0.eval (.tmp 11) = .int .i64 (k : Int) := by rw [ha0]; rfl
          refine wp_region_iqst 10 sh12d (sh12P (some ⟨sb, so, none⟩) lc2 lf k w2.heap.size) sh12C (fun w' => Below w2.heap.size w2 w') 0 (fun _ => True) sh12D (by kernel_rfl) (fun i j h => by
              have h' : ¬ j < 11 ∨ ¬ i < 11 := h
              unfold sh12D; simp; omega)
            (fun a' w' => ∃ (a6 : Act) (lv' : Value), a' = a6.put (some 7) lv' ∧ Sm (slots sh12d 10) a0 a6 ∧ Below w2.heap.size w2 w' ∧ OwnI w' w2.heap.size lv' (lf.take k ++ lf.drop (k + 1)))
            (by kernel_rfl) mixed (by kernel_rfl) (by rw [show a0.tmps.size = 105 by rw [ha0]; rfl]; kernel_rfl) (by kernel_rfl) (by kernel_rfl) (Below.refl _ _).drew trivial ?_ ?_ ?_
          · rintro i op a w7 hi hop hdep hsm hb _ K hK
            have q7 := (hsm.eval (m := 7) (by decide)).trans z7
            have q11 := (hsm.eval (m := 11) (by decide)).trans z11
            have dv : ∀ e' ∈ op.after, Region.binds .any e' = true → (∀ k, k ≠ i → sh12D k i = false → sh12C k e'.on = false) → (sh12P (some ⟨sb, so, none⟩) lc2 lf k w2.heap.size) e'.on (a.eval (.tmp (sh12d e'.on))) w7 := fun e he hbi hc => hdep e he hbi hc
            have hn : ∀ v, (sh12P (some ⟨sb, so, none⟩) lc2 lf k w2.heap.size) i v w7 → K (a.put op.dst v) w7 := fun v hv => hK v w7 hb (fun _ _ => trivial) (fun _ _ _ _ _ h => h) hv
            have hsi := HLV2.out.si.keep hb
            have hcase : i = 0 ∨ i = 1 ∨ i = 2 ∨ i = 3 ∨ i = 4 ∨ i = 5 ∨ i = 6 ∨ i = 7 ∨ i = 8 ∨ i = 9 := by omega
            rcases hcase with h | h | h | h | h | h | h | h | h | h <;> subst h <;> have ho' := Option.some.inj hop <;> subst ho'
            · exact wp_slice0I rfl (hK _ _ (below_alloc hb _) (fun _ _ => trivial) (fun j' u' _ _ _ h => sh12_mono (below_alloc (Below.refl _ _) _) j' u' h) (OwnI_empty w7 _ hb.size))
            · exact vl_move (.tmp 7) rfl _ q7 (hn _ rfl)
            · exact vl_move (.tmp 11) rfl _ q11 (hn _ rfl)
            · exact vl_toI (.tmp 61) (.tmp 62) rfl _ _ lc2 k (dv ⟨1, .data⟩ (by simp) rfl (fun k hk hd => by unfold sh12D at hd; unfold sh12C; simp at hd ⊢; try omega)) (dv ⟨2, .data⟩ (by simp) rfl (fun k hk hd => by unfold sh12D at hd; unfold sh12C; simp at hd ⊢; try omega)) (by omega) (hn _ rfl)
            · have g0 : OwnI w7 w2.heap.size (a.eval (.tmp 60)) [] := (dv ⟨0, .data⟩ (by simp) rfl (fun k hk hd => by unfold sh12D at hd; unfold sh12C; simp at hd ⊢; try omega))
              have g3 : SI w7 (a.eval (.tmp 63)) (lf.take k) := by
                rw [show a.eval (.tmp 63) = _ from (dv ⟨3, .data⟩ (by simp) rfl (fun k hk hd => by unfold sh12D at hd; unfold sh12C; simp at hd ⊢; try omega))]
                exact hsi.take k (by omega)
              exact wp_app_int (.tmp 60) (.tmp 63) rfl w2.heap.size _ _ [] (lf.take k) rfl rfl g0 g3 (by simp; omega) hb.size fun v' w8 ho hg hat =>
                hK v' w8 (hb.grown hg hb.size (fun k hk => (World.ownsRow.lt g0 k hk).1)) (fun _ _ => trivial) (fun j' u' h5 hc hd h => sh12_app4 j' u' h5 hc hd h) (show OwnI w8 w2.heap.size v' (lf.take k) by simpa using ho)
            · exact vl_move (.tmp 7) rfl _ q7 (hn _ rfl)
            · exact vl_move (.tmp 11) rfl _ q11 (hn _ rfl)
            · exact wp_add1 (.tmp 66) (.const (.int .i64 1)) rfl _ _ (dv ⟨6, .data⟩ (by simp) rfl (fun k hk hd => by unfold sh12D at hd; unfold sh12C; simp at hd ⊢; try omega)) rfl (by omega) (hn _ rfl)
            · refine vl_fromI (.tmp 65) (.tmp 67) rfl _ lf.length lc2 (k + 1) (dv ⟨5, .data⟩ (by simp) rfl (fun k hk hd => by unfold sh12D at hd; unfold sh12C; simp at hd ⊢; try omega)) (dv ⟨7, .data⟩ (by simp) rfl (fun k hk hd => by unfold sh12D at hd; unfold sh12C; simp at hd ⊢; try omega)) (by omega) (by omega) (fun hce => hn _ (.inl ⟨hce, rfl⟩)) (fun _ => hn _ (.inr rfl))
            · have g4 : OwnI w7 w2.heap.size (a.eval (.tmp 64)) (lf.take k) := (dv ⟨4, .data⟩ (by simp) rfl (fun k hk hd => by unfold sh12D at hd; unfold sh12C; simp at hd ⊢; try omega))
              have g8 : SI w7 (a.eval (.tmp 68)) (lf.drop (k + 1)) := by
                rcases (dv ⟨8, .data⟩ (by simp) rfl (fun k hk hd => by unfold sh12D at hd; unfold sh12C; simp at hd ⊢; try omega)) with ⟨hce, e8⟩ | e8
                · rw [show a.eval (.tmp 68) = _ from e8]; exact SI_from0 hsi (by omega) hce
                · rw [show a.eval (.tmp 68) = _ from e8]; exact SI_from hsi (by omega)
              exact wp_app_int (.tmp 64) (.tmp 68) rfl w2.heap.size _ _ (lf.take k) (lf.drop (k + 1)) rfl rfl g4 g8 (by simp; omega) hb.size fun v' w8 ho hg hat =>
                hK v' w8 (hb.grown hg hb.size (fun k hk => (World.ownsRow.lt g4 k hk).1)) (fun _ _ => trivial) (fun j' u' h5 hc _ h => sh12_app9 j' u' h5 hc h) ho
          · rintro op a w7 hop hsm hb hv K hK
            have ho' := Option.some.inj hop
            subst ho'
            exact vl_assign (.tmp 69) rfl _ rfl (hK _ _ ⟨a, _, rfl, hsm, hb, hv 9 (by decide) (fun k hk => by unfold sh12C; simp; try omega)⟩)
          rintro a' w9 ⟨a6, lv', rfl, hs6, hb9, hov9⟩
          obtain ⟨la', ln', lc', rfl⟩ := hov9.sl
          have hsm' : Sm [60, 61, 62, 63, 64, 65, 66, 67, 68, 69] a0 a6 := hs6
          have HA := hsm'.lit
          simp only [List.foldl] at HA
          generalize a6.eval (.tmp 60) = t60 at HA
          generalize a6.eval (.tmp 61) = t61 at HA
          generalize a6.eval (.tmp 62) = t62 at HA
          generalize a6.eval (.tmp 63) = t63 at HA
          generalize a6.eval (.tmp 64) = t64 at HA
          generalize a6.eval (.tmp 65) = t65 at HA
          generalize a6.eval (.tmp 66) = t66 at HA
          generalize a6.eval (.tmp 67) = t67 at HA
          generalize a6.eval (.tmp 68) = t68 at HA
          generalize a6.eval (.tmp 69) = t69 at HA
          rw [HA, ha0]
          simp only [Act.put, List.setIfInBounds_toArray, List.set_cons_zero, List.set_cons_succ]
          clear HA
          clear hs6 hsm' ha0 z7 z11
          obtain ⟨Q, hQ⟩ : ∃ Q, Q = P / 7 := ⟨_, rfl⟩
          have ht7 : Int.tdiv (P : Int) 7 = (Q : Int) := by rw [Int.tdiv_eq_ediv_of_nonneg (Int.natCast_nonneg P)]; omega
          have hQl : Q ≤ 2635249153387078803 := by omega
          clear hQ
          have hq1 : IntKind.u64.wrap (Q : Int) = (Q : Int) := u64_in (by omega) (by omega)
          have hq2 : IntKind.u64.wrap ((Q : Int) + 13) = ((Q + 13 : Nat) : Int) := by rw [u64_in (by omega) (by omega)]; omega
          have HO9 := Lib.hid (hov9.mono HB2.out.size)
          have HB9 := Lib.hid (HB2.out.trans (hb9.mono HB2.out.size))
          have HOV := Lib.hid (HOA.out.below hb9)
          have HNE : Hid (∀ g, (Value.slice pa2 pn2 pc2).ownBlock = some g → (Value.slice la' ln' lc').ownBlock ≠ some g) := Lib.hid fun g hg hg' => by
            have h1 := HVA.out g hg
            have h2 := (World.ownsRow.lt hov9 g hg').1
            omega
          have HWH := Lib.hid (perm_step hwh.out hkl)
          have hln : ln' = (lf.take k ++ lf.drop (k + 1)).length := hov9.si.nn.1
          have hll : (lf.take k ++ lf.drop (k + 1)).length + 1 = lf.length := by simp; omega
          have HLN := Lib.hid hln
          clear hb9 hov9 hln
          go_wp2_with fail
          go_roundw
          case rel => exact ⟨lf.take k ++ lf.drop (k + 1), od ++ [gi lf k], Q + 13, rfl, by omega, HB9, HO9, HOV, HWH, HLN.out, HNE⟩
          case measure => have := HLN.out; simp only [lenOf]; omega
        · have hlf : lf = [] := List.eq_nil_of_length_eq_zero (by omega)
          subst hlf
          rw [List.append_nil] at hwh
          obtain ⟨oa, on, oc, rfl⟩ := hov.out.sl
          have HX5 := Lib.hid (HX3.out.keep hbw2.out)
          have HSO := Lib.hid hov.out.si
          clear hlv hov hne n2 n3
          have hpd : decide ((0 : Int) < 0) = false := by decide
          go_wp2_with fail
          refine (Makespan_any _ _ p od wr (H.out.keep HX5.out.hb) HSO.out).mono ?_
          rintro e w6 ⟨rfl, hb6⟩
          have HX6 := Lib.hid (HX5.out.keep hb6)
          have hfin : finishE p od = 0 := by
            have hc := (checkV_zero.1 HE.out).2.1
            unfold finishE
            rw [if_neg (by simp [hc]), if_neg (by rw [hwh.out.1, hwh.out.2]; simp)]
          have hsp : x0 ≤ spanV p od := by
            unfold spanV
            rw [if_pos hfin]
            exact check_shows HE.out hwh.out
          rw [hfin]
          have hd1 : decide (x0 ≤ spanV p od) = true := by rw [decide_eq_true_eq]; exact hsp
          have HLESS : Hid (x2 ≤ x0 → checkV p x2 L = 0) := Lib.hid fun h => check_less HE.out h
          have y0 := HX6.out.c0
          have y2 := HX6.out.c2
          clear hb6 hfin hsp
          generalize spanV p od = N at *
          by_cases hx : x0 < x2
          · have hd2 : decide (x0 < x2) = true := by rw [decide_eq_true_eq]; exact hx
            go_wp2_with fail
            refine (HA.out _ HX6.out.hb).mono ?_
            rintro e w7 ⟨rfl, hb7⟩
            have HX7 := Lib.hid (HX6.out.keep hb7)
            clear hb7
            go_wp2_with fail
            go_ret
            exact ⟨rfl, HX7.out.hb⟩
          · have hd2 : decide (x0 < x2) = false := by rw [decide_eq_false_iff_not]; exact hx
            go_wp2_with fail
            refine (Check_any _ _ p x2 L w6 (H.out.keep HX6.out.hb) (HL.out.keep HX6.out.hb) (by omega)).mono ?_
            rintro e w7 ⟨rfl, hb7⟩
            rw [HLESS.out (by omega)]
            have HX7 := Lib.hid (HX6.out.keep hb7)
            clear hb7 y0 y2
            go_wp2_with fail
            refine (HA.out _ HX7.out.hb).mono ?_
            rintro e w8 ⟨rfl, hb8⟩
            have HX8 := Lib.hid (HX7.out.keep hb8)
            clear hb8
            go_wp2_with fail
            go_ret
            exact ⟨rfl, HX8.out.hb⟩
end Go.Proofs.YtehbnckdllbmgaaGreatDoor
