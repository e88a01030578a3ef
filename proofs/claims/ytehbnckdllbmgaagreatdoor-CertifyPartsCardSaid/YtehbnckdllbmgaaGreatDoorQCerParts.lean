/- The law CertifyParts. -/
import Derived.Test.YtehbnckdllbmgaaGreatDoorCerOp
import Derived.Test.YtehbnckdllbmgaaGreatDoorCerLP
import Derived.Test.YtehbnckdllbmgaaGreatDoorCerW
import Derived.Test.YtehbnckdllbmgaaGreatDoorRgg
set_option linter.unusedSimpArgs false
set_option linter.unusedVariables false
namespace Go.Proofs.YtehbnckdllbmgaaGreatDoor
open Go.RowKit

def pa11d (i : Nat) : Nat := if i = 10 then 9 else i + 45
def pa11P (w : World) (a : Option Addr) (lc : Nat) (L : List (List Int)) (k B : Nat) : Nat → Value → World → Prop
  | 0, v, W => OwnR w W B v []
  | 1, v, _ => v = .slice a L.length lc
  | 2, v, _ => v = .int .i64 k
  | 3, v, _ => v = .slice a k lc
  | 4, v, W => OwnR w W B v (L.take k)
  | 5, v, _ => v = .slice a L.length lc
  | 6, v, _ => v = .int .i64 k
  | 7, v, _ => v = .int .i64 (k + 1 : Nat)
  | 8, v, _ => (lc = k + 1 ∧ v = .slice a (L.length - (k + 1)) 0) ∨ v = .slice (Option.map (fun x => x.add (k + 1)) a) (L.length - (k + 1)) (lc - (k + 1))
  | 9, v, W => OwnR w W B v (L.take k ++ L.drop (k + 1))
  | 10, v, W => OwnR w W B v (L.take k ++ L.drop (k + 1))
  | _, _, _ => True
def pa11C (i j : Nat) : Bool := (i == 4 && j == 0) || (i == 9 && (j == 0 || j == 4))
def pa11D (j i : Nat) : Bool := (j == 9 && i == 4) || (j == 10 && (i == 4 || i == 9))
theorem pa11_mono {w : World} {a : Option Addr} {lc : Nat} {L : List (List Int)} {k B : Nat} {W W' : World} (hb : Below W.heap.size W W') : ∀ i v, pa11P w a lc L k B i v W → pa11P w a lc L k B i v W'
  | 0, _, h => OwnR.below h hb | 1, _, h => h | 2, _, h => h | 3, _, h => h | 4, _, h => OwnR.below h hb | 5, _, h => h | 6, _, h => h | 7, _, h => h | 8, _, h => h | 9, _, h => OwnR.below h hb | 10, _, h => OwnR.below h hb | _ + 11, _, _ => trivial
theorem pa11_app4 {w : World} {a : Option Addr} {lc : Nat} {L : List (List Int)} {k B : Nat} {W W' : World} : ∀ i v, i ≠ 4 → pa11C 4 i = false → pa11D i 4 = false → pa11P w a lc L k B i v W → pa11P w a lc L k B i v W'
  | 0, _, _, hc, _, _ => (by cases hc) | 1, _, _, _, _, h => h | 2, _, _, _, _, h => h | 3, _, _, _, _, h => h | 4, _, h4, _, _, _ => absurd rfl h4 | 5, _, _, _, _, h => h | 6, _, _, _, _, h => h | 7, _, _, _, _, h => h | 8, _, _, _, _, h => h | 9, _, _, _, hd, _ => (by cases hd) | 10, _, _, _, hd, _ => (by cases hd) | _ + 11, _, _, _, _, _ => trivial
theorem pa11_app9 {w : World} {a : Option Addr} {lc : Nat} {L : List (List Int)} {k B : Nat} {W W' : World} : ∀ i v, i ≠ 9 → pa11C 9 i = false → pa11D i 9 = false → pa11P w a lc L k B i v W → pa11P w a lc L k B i v W'
  | 0, _, _, hc, _, _ => (by cases hc) | 1, _, _, _, _, h => h | 2, _, _, _, _, h => h | 3, _, _, _, _, h => h | 4, _, _, hc, _, _ => (by cases hc) | 5, _, _, _, _, h => h | 6, _, _, _, _, h => h | 7, _, _, _, _, h => h | 8, _, _, _, _, h => h | 9, _, h9, _, _, _ => absurd rfl h9 | 10, _, _, _, hd, _ => (by cases hd) | _ + 11, _, _, _, _, _ => trivial

def pb12d (i : Nat) : Nat := i + 55
def pb12P (w : World) (N : Nat) (lv : Value) (a : Option Addr) (lc : Nat) (L : List (List Int)) (i B : Nat) (b off : Nat) (ui : Value) : Nat → Value → World → Prop
  | 0, v, _ => v = .int .i64 N
  | 1, v, _ => v = lv
  | 2, v, _ => v = .bool false
  | 3, v, _ => v = .bool false
  | 4, v, _ => v = .int .i64 N
  | 5, v, W => OwnR w W B v [] ∧ ∃ g, v = .slice (some ⟨g, 0, none⟩) 0 0 ∧ g < W.heap.size ∧ W.heap[g]? = some (.cells #[] 24)
  | 6, v, _ => v = .slice a L.length lc
  | 7, v, W => OwnR w W B v L
  | 8, v, _ => v = .slice a L.length lc
  | 9, v, _ => v = .int .i64 i
  | 10, v, _ => v = .pointer (some ⟨b, off + i, none⟩)
  | 11, v, _ => v = ui
  | 12, v, W => ∃ g, v = .slice (some ⟨g, 0, none⟩) 1 1 ∧ g < W.heap.size ∧ W.heap[g]? = some (.cells #[ui] 24)
  | 13, v, W => OwnR w W B v (L ++ [ri L i])
  | 14, v, _ => v = .bool false
  | 15, v, _ => v = .bool false
  | _, _, _ => True
def pb12C (i j : Nat) : Bool := (i == 7 && j == 5) || (i == 13 && (j == 5 || j == 7 || j == 12))
def pb12D (j i : Nat) : Bool := j == 13 && i == 7
theorem pb12_mono {w : World} {N : Nat} {lv : Value} {a : Option Addr} {lc : Nat} {L : List (List Int)} {i B b off : Nat} {ui : Value} {W W' : World} (hb : Below W.heap.size W W') : ∀ j v, pb12P w N lv a lc L i B b off ui j v W → pb12P w N lv a lc L i B b off ui j v W'
  | 0, _, h => h | 1, _, h => h | 2, _, h => h | 3, _, h => h | 4, _, h => h
  | 5, _, ⟨h, g, e, h1, h2⟩ => ⟨OwnR.below h hb, g, e, Nat.lt_of_lt_of_le h1 hb.size, (hb.block g h1).trans h2⟩
  | 6, _, h => h | 7, _, h => OwnR.below h hb | 8, _, h => h | 9, _, h => h | 10, _, h => h | 11, _, h => h
  | 12, _, ⟨g, e, h1, h2⟩ => ⟨g, e, Nat.lt_of_lt_of_le h1 hb.size, (hb.block g h1).trans h2⟩
  | 13, _, h => OwnR.below h hb | 14, _, h => h | 15, _, h => h | _ + 16, _, _ => trivial
theorem pb12_app7 {w : World} {N : Nat} {lv : Value} {a : Option Addr} {lc : Nat} {L : List (List Int)} {i B b off : Nat} {ui : Value} {W W' : World} {g5 : Nat} (hg : W.grownBy W' (some g5)) (h5 : W.heap[g5]? = some (.cells #[] 24)) : ∀ j v, j ≠ 7 → pb12C 7 j = false → pb12D j 7 = false → pb12P w N lv a lc L i B b off ui j v W → pb12P w N lv a lc L i B b off ui j v W'
  | 0, _, _, _, _, h => h | 1, _, _, _, _, h => h | 2, _, _, _, _, h => h | 3, _, _, _, _, h => h | 4, _, _, _, _, h => h
  | 5, _, _, hc, _, _ => (by cases hc)
  | 6, _, _, _, _, h => h | 7, _, h7, _, _, _ => absurd rfl h7 | 8, _, _, _, _, h => h | 9, _, _, _, _, h => h | 10, _, _, _, _, h => h | 11, _, _, _, _, h => h
  | 12, _, _, _, _, ⟨g, e, h1, h2⟩ => ⟨g, e, Nat.lt_of_lt_of_le h1 hg.size, (hg.block g h1 (fun e5 => by
      have e5 : g = g5 := Option.some.inj e5
      subst e5
      rw [h5] at h2
      cases h2)).trans h2⟩
  | 13, _, _, _, hd, _ => (by cases hd) | 14, _, _, _, _, h => h | 15, _, _, _, _, h => h | _ + 16, _, _, _, _, _ => trivial
theorem pb12_app13 {w : World} {N : Nat} {lv : Value} {a : Option Addr} {lc : Nat} {L : List (List Int)} {i B b off : Nat} {ui : Value} {W W' : World} : ∀ j v, j ≠ 13 → pb12C 13 j = false → pb12D j 13 = false → pb12P w N lv a lc L i B b off ui j v W → pb12P w N lv a lc L i B b off ui j v W'
  | 0, _, _, _, _, h => h | 1, _, _, _, _, h => h | 2, _, _, _, _, h => h | 3, _, _, _, _, h => h | 4, _, _, _, _, h => h
  | 5, _, _, hc, _, _ => (by cases hc) | 6, _, _, _, _, h => h | 7, _, _, hc, _, _ => (by cases hc) | 8, _, _, _, _, h => h | 9, _, _, _, _, h => h | 10, _, _, _, _, h => h | 11, _, _, _, _, h => h
  | 12, _, _, hc, _, _ => (by cases hc) | 13, _, h13, _, _, _ => absurd rfl h13 | 14, _, _, _, _, h => h | 15, _, _, _, _, h => h | _ + 16, _, _, _, _, _ => trivial
theorem enter_Covers : ∀ args w, (callFunc 15 args).run Tryz.prog w = .ok (.enter 15 args) w := enters_of Tryz.func15 (by kernel_rfl) rfl

theorem SS.src {w : World} {v : Value} {rs : List (List Int)} (h : SS w v rs) : ∃ C, Sl w v rs.length C ∧ ∀ i, i < rs.length → SI w (C i) (ri rs i) := h

def hasJ (u : List Int) (k : Nat) (j : Nat) : Bool := (u.take j).any fun y => (k : Int) == y
theorem hasJ_succ {u : List Int} {k j : Nat} (h : j < u.length) : hasJ u k (j + 1) = (hasJ u k j || (gi u j == (k : Int))) := by
  unfold hasJ
  have e : u.take (j + 1) = u.take j ++ [u[j]] := by rw [List.take_add_one, List.getElem?_eq_getElem h]; rfl
  rw [e, List.any_append, gi_lt h]
  simp only [List.any_cons, List.any_nil, Bool.or_false]
  congr 1
  rw [Bool.beq_comm]
theorem extL_len (u : List Int) : ∀ k, (extL u k).length ≤ k
  | 0 => Nat.le_refl _
  | k + 1 => by
    have := extL_len u k
    unfold extL
    split
    · omega
    · simp; omega
theorem ext_app (A : List (List Int)) (u : List Int) (k : Nat) : A ++ extL u (k + 1) = if u.any (fun y => (k : Int) == y) then A ++ extL u k else A ++ extL u k ++ [u ++ [(k : Int)]] := by
  rw [show extL u (k + 1) = if u.any (fun y => (k : Int) == y) then extL u k else extL u k ++ [u ++ [(k : Int)]] from rfl]
  split
  · rfl
  · rw [List.append_assoc]
theorem hasJ_end (u : List Int) (k : Nat) : hasJ u k u.length = u.any fun y => (k : Int) == y := by unfold hasJ; rw [List.take_length]

set_option maxHeartbeats 4000000 in
set_option maxRecDepth 100000 in
theorem Parts_any (n : Int) (v : Value) (L : List (List Int)) (m : Nat) (w : World) (h : SS w v L) (hn : v = .slice none 0 0 ∨ ∃ a n c, v = .slice (some a) n c) (hm : m < 256) (hV : VarsC w) :
    Calls Tryz.prog 10 #[.int .i64 n, v, .int .u8 (m : Int)] w (Ret w (.bool true)) := by
  have HV := Lib.hid hV; have H := Lib.hid h; have HN := Lib.hid hn
  have HA : Hid (∀ W, Below w.heap.size w W → Calls Tryz.prog 14 #[] W (Ret W (.bool true))) := Lib.hid fun W hW => awake_any W (HV.out.keep hW)
  obtain ⟨vs, ⟨pa, pc, rfl, p1, p2, p3⟩, p4⟩ := h
  have P3 := Lib.hid p3; have P4 := Lib.hid p4
  clear hV p3 p4 hn
  have hLm : L.length ≤ 9223372036854775807 := by unfold maxLen at p2; omega
  have AW : ∀ W, Below w.heap.size w W → Hid (Calls Tryz.prog 14 #[] W (Ret W (.bool true))) := fun W hW => Lib.hid (HA.out W hW)
  by_cases h0 : L.length = 0
  · have hd : ((L.length : Int) == 0) = true := by rw [beq_iff_eq]; omega
    go_enter Tryz.func10, Tryz.ntmps10
    go_wp2_with fail
    refine (HA.out _ (Below.refl _ _)).mono ?_
    rintro e w1 ⟨rfl, hb⟩
    have HB := Lib.hid hb
    clear hb
    go_wp2_with fail
    go_ret
    exact ⟨rfl, HB.out⟩
  have hd : ((L.length : Int) == 0) = false := by rw [beq_eq_false_iff_ne]; omega
  by_cases h2 : 200 < L.length
  · have hd2 : decide ((200 : Int) < L.length) = true := by rw [decide_eq_true_eq]; omega
    go_enter Tryz.func10, Tryz.ntmps10
    go_wp2_with fail
    refine (HA.out _ (Below.refl _ _)).mono ?_
    rintro e w1 ⟨rfl, hb⟩
    have HB := Lib.hid hb
    clear hb
    go_wp2_with fail
    go_ret
    exact ⟨rfl, HB.out⟩
  have hd2 : decide ((200 : Int) < L.length) = false := by rw [decide_eq_false_iff_not]; omega
  go_enter Tryz.func10, Tryz.ntmps10
  go_wp2_with fail
  clear hd hd2
  go_loopw [7] (fun i wr => ∃ k : Nat, k ≤ L.length ∧ i = .int .i64 k ∧ (∃ m, wr = w.drewN m) ∧ Hid (∀ j, j < k → (ri L j).length ≤ 40)) (fun i _ => L.length - (intOf i).toNat)
  case atStart => exact ⟨0, Nat.zero_le _, rfl, ⟨0, rfl⟩, fun j hj => by omega⟩
  case round =>
    obtain ⟨k, hk, rfl, ⟨q, rfl⟩, hj⟩ := hrel
    by_cases hlt : k < L.length
    · obtain ⟨b, off, rfl, hc⟩ := P3.out k hlt
      obtain ⟨ra, rc, hr, r1, r2⟩ := (P4.out k hlt).sl
      rw [hr] at hc
      clear hr
      have i0 : (0 : Int) ≤ k := by omega
      have i1 : (k : Int) < L.length := by omega
      have i2 : (k : Int) < pc := by omega
      by_cases h40 : 40 < (ri L k).length
      · have hd4 : decide ((40 : Int) < (ri L k).length) = true := by rw [decide_eq_true_eq]; omega
        have HQ := Lib.hid (below_drewN' (Below.refl w.heap.size w) q)
        go_wp2_with fail
        refine (HA.out _ HQ.out).mono ?_
        rintro e w1 ⟨rfl, hb⟩
        have HB := Lib.hid (ext_trans HQ.out hb)
        clear hb
        go_wp2_with fail
        go_ret
        exact ⟨rfl, HB.out⟩
      · have hd4 : decide ((40 : Int) < (ri L k).length) = false := by rw [decide_eq_false_iff_not]; omega
        have HJ : Hid (∀ j, j < k + 1 → (ri L j).length ≤ 40) := Lib.hid fun j hj' => by
          by_cases e : j = k
          · subst e; omega
          · exact hj.out j (by omega)
        go_wp2_with fail
        go_roundw
        case rel => exact ⟨k + 1, by omega, by go_num, (by first | exact ⟨_, rfl⟩ | exact dn2 _ _ _), HJ⟩
        case measure => simp [intOf]; omega
    · obtain rfl : k = L.length := by omega
      have HQ := Lib.hid (below_drewN' (Below.refl w.heap.size w) q)
      go_wp2_with fail
      refine (Covers_any n _ L _ (H.out.drewN q) HN.out (by omega)).mono ?_
      rintro e w1 ⟨rfl, hb⟩
      have HB1 := Lib.hid (ext_trans HQ.out hb)
      clear hb
      cases hcv : coversV n L
      · go_wp2_with fail
        refine (HA.out _ HB1.out).mono ?_
        rintro e w1 ⟨rfl, hb⟩
        have HB := Lib.hid (ext_trans HB1.out hb)
        clear hb
        go_wp2_with fail
        go_ret
        exact ⟨rfl, HB.out⟩
      obtain ⟨N, rfl, hN⟩ := covers_n hcv
      have HCV := Lib.hid hcv
      clear hcv
      obtain ⟨i, hi⟩ : ∃ i, i = m % L.length := ⟨_, rfl⟩
      have hil : i < L.length := by rw [hi]; exact Nat.mod_lt _ (by omega)
      have htm : Int.tmod (m : Int) (L.length : Int) = (i : Int) := by rw [Int.tmod_eq_emod_of_nonneg (Int.natCast_nonneg m)]; omega
      clear hi
      have hne : (L.length : Int) ≠ 0 := by omega
      have HLE := Lib.hid (hj.out i hil)
      clear hj
      go_wp2_with fail
      have hbs := HB1.out.size
      refine wp_name fun a0 ha0 => ?_
      have z1 : a0.eval (.tmp 1) = .slice pa L.length pc := by rw [ha0]; rfl
      have z8 : a0.eval (.tmp 8) = .int .i64 (i : Int) := by rw [ha0]; rfl
      refine wp_region_iqt pa11d (pa11P w pa pc L i w1.heap.size) pa11C (fun w' => Below w1.heap.size w1 w') 0 (fun _ => True) pa11D (by kernel_rfl) (fun i j h => by
              have h' : ¬ j < 11 ∨ ¬ i < 11 := h
              unfold pa11D; simp; omega) mixed (by kernel_rfl) (by rw [show a0.tmps.size = 129 by rw [ha0]; rfl]; kernel_rfl) (by kernel_rfl) (Below.refl _ _).drew trivial ?_ ?_
      · rintro j op a w7 hop hdep hsm hb _ K hK
        have hj11 : j < 11 := (Array.getElem?_eq_some_iff.1 hop).1
        have q1 := (hsm.eval (m := 1) (by decide)).trans z1
        have q8 := (hsm.eval (m := 8) (by decide)).trans z8
        have dv : ∀ e' ∈ op.after, Region.binds .any e' = true → (∀ k, k ≠ j → pa11D k j = false → pa11C k e'.on = false) → (pa11P w pa pc L i w1.heap.size) e'.on (a.eval (.tmp (pa11d e'.on))) w7 := fun e he hbi hc => hdep e he hbi hc
        have hn : ∀ v, (pa11P w pa pc L i w1.heap.size) j v w7 → K (a.put op.dst v) w7 := fun v hv => hK v w7 hb (fun _ _ => trivial) (fun _ _ _ _ _ h => h) hv
        have hbw := ext_trans HB1.out hb
        have hrl : ∀ (xs : List (List Int)) (C : Nat → Value), (∀ q, q < xs.length → SI w (C q) (ri xs q)) → ∀ q, q < xs.length → RowOk w w7 w1.heap.size (C q) (ri xs q) := fun xs C h q hq => .inl (h q hq)
        have hcase : j = 0 ∨ j = 1 ∨ j = 2 ∨ j = 3 ∨ j = 4 ∨ j = 5 ∨ j = 6 ∨ j = 7 ∨ j = 8 ∨ j = 9 ∨ j = 10 := by omega
        rcases hcase with h | h | h | h | h | h | h | h | h | h | h <;> subst h <;> have ho' := Option.some.inj hop <;> subst ho'
        · exact wp_slice0R rfl (hK _ _ (below_alloc hb _) (fun _ _ => trivial) (fun j' u' _ _ _ h => pa11_mono (below_alloc (Below.refl _ _) _) j' u' h) (OwnR_empty w w7 _ hb.size))
        · exact vl_move (.tmp 1) rfl _ q1 (hn _ rfl)
        · exact vl_move (.tmp 8) rfl _ q8 (hn _ rfl)
        · exact vl_slice_to (.tmp 46) (.tmp 47) rfl _ _ pc i (dv ⟨1, .data⟩ (by simp) rfl (fun k hk hd => by unfold pa11D at hd; unfold pa11C; simp at hd ⊢; try omega)) (dv ⟨2, .data⟩ (by simp) rfl (fun k hk hd => by unfold pa11D at hd; unfold pa11C; simp at hd ⊢; try omega)) (by omega) (hn _ rfl)
        · have g0 : OwnR w w7 w1.heap.size (a.eval (.tmp 45)) [] := (dv ⟨0, .data⟩ (by simp) rfl (fun k hk hd => by unfold pa11D at hd; unfold pa11C; simp at hd ⊢; try omega))
          obtain ⟨C, hsl, hsi⟩ := (H.out.take i (by omega)).src
          have g3 : Sl w7 (a.eval (.tmp 48)) (L.take i).length C := by
            rw [show a.eval (.tmp 48) = _ from (dv ⟨3, .data⟩ (by simp) rfl (fun k hk hd => by unfold pa11D at hd; unfold pa11C; simp at hd ⊢; try omega))]
            exact hsl.keep hbw
          exact wp_app_rows (.tmp 45) (.tmp 48) rfl w1.heap.size _ _ [] (L.take i) rfl rfl g0 g3 (hrl _ _ hsi) (by simp; omega) hb.size fun v' w8 ho hg hat =>
            hK v' w8 (hb.grown hg hb.size (fun k hk => (g0.lt k hk).1)) (fun _ _ => trivial) (fun j' u' h5 hc hd h => pa11_app4 j' u' h5 hc hd h) (show OwnR w w8 w1.heap.size v' (L.take i) by simpa using ho)
        · exact vl_move (.tmp 1) rfl _ q1 (hn _ rfl)
        · exact vl_move (.tmp 8) rfl _ q8 (hn _ rfl)
        · exact wp_add1 (.tmp 51) (.const (.int .i64 1)) rfl _ _ (dv ⟨6, .data⟩ (by simp) rfl (fun k hk hd => by unfold pa11D at hd; unfold pa11C; simp at hd ⊢; try omega)) rfl (by omega) (hn _ rfl)
        · exact vl_fromR (.tmp 50) (.tmp 52) rfl _ L.length pc (i + 1) (dv ⟨5, .data⟩ (by simp) rfl (fun k hk hd => by unfold pa11D at hd; unfold pa11C; simp at hd ⊢; try omega)) (dv ⟨7, .data⟩ (by simp) rfl (fun k hk hd => by unfold pa11D at hd; unfold pa11C; simp at hd ⊢; try omega)) (by omega) (by omega) (fun hce => hn _ (.inl ⟨hce, rfl⟩)) (fun _ => hn _ (.inr rfl))
        · have g4 : OwnR w w7 w1.heap.size (a.eval (.tmp 49)) (L.take i) := (dv ⟨4, .data⟩ (by simp) rfl (fun k hk hd => by unfold pa11D at hd; unfold pa11C; simp at hd ⊢; try omega))
          have hss : ∃ C, Sl w7 (a.eval (.tmp 53)) (L.drop (i + 1)).length C ∧ ∀ q, q < (L.drop (i + 1)).length → SI w (C q) (ri (L.drop (i + 1)) q) := by
            rcases (dv ⟨8, .data⟩ (by simp) rfl (fun k hk hd => by unfold pa11D at hd; unfold pa11C; simp at hd ⊢; try omega)) with ⟨hce, e8⟩ | e8
            · rw [show a.eval (.tmp 53) = _ from e8]
              obtain ⟨C, hsl, hsi⟩ := (SS_from0 H.out (e := i + 1) (by omega) hce).src
              exact ⟨C, hsl.keep hbw, hsi⟩
            · rw [show a.eval (.tmp 53) = _ from e8]
              obtain ⟨C, hsl, hsi⟩ := (SS_from H.out (e := i + 1) (by omega)).src
              exact ⟨C, hsl.keep hbw, hsi⟩
          obtain ⟨C, g8, hsi⟩ := hss
          exact wp_app_rows (.tmp 49) (.tmp 53) rfl w1.heap.size _ _ (L.take i) (L.drop (i + 1)) rfl rfl g4 g8 (hrl _ _ hsi) (by simp; omega) hb.size fun v' w8 ho hg hat =>
            hK v' w8 (hb.grown hg hb.size (fun k hk => (g4.lt k hk).1)) (fun _ _ => trivial) (fun j' u' h5 hc hd h => pa11_app9 j' u' h5 hc hd h) ho
        · exact vl_assign (.tmp 54) rfl _ rfl (hn _ (dv ⟨9, .data⟩ (by simp) rfl (fun k hk hd => by unfold pa11D at hd; unfold pa11C; simp at hd ⊢; try omega)))
      rintro a6 w2 hs6 hb2 hv6
      obtain ⟨lv, hs9⟩ : ∃ lv, a6.eval (.tmp 9) = lv := ⟨_, rfl⟩
      have hlv : OwnR w w2 w1.heap.size lv (lessL L i) := by rw [← hs9]; exact hv6 10 (by decide) (fun k => by unfold pa11C; simp; try omega)
      have hsm' : Sm [45, 46, 47, 48, 49, 50, 51, 52, 53, 54, 9] a0 a6 := hs6
      have HA := hsm'.lit
      simp only [List.foldl] at HA
      rw [hs9] at HA
      generalize a6.eval (.tmp 45) = t45 at HA
      generalize a6.eval (.tmp 46) = t46 at HA
      generalize a6.eval (.tmp 47) = t47 at HA
      generalize a6.eval (.tmp 48) = t48 at HA
      generalize a6.eval (.tmp 49) = t49 at HA
      generalize a6.eval (.tmp 50) = t50 at HA
      generalize a6.eval (.tmp 51) = t51 at HA
      generalize a6.eval (.tmp 52) = t52 at HA
      generalize a6.eval (.tmp 53) = t53 at HA
      generalize a6.eval (.tmp 54) = t54 at HA
      rw [HA, ha0]
      simp only [Act.put, List.setIfInBounds_toArray, List.set_cons_zero, List.set_cons_succ]
      clear HA
      clear hs6 hsm' ha0 z1 z8 hv6 hs9
      have hshp := hlv.shape
      have HB2 := Lib.hid (ext_trans HB1.out hb2)
      have HB12 := Lib.hid hb2
      have hbb2 := hb2.size
      have HLV := Lib.hid hlv; have HSH := Lib.hid hshp
      clear hb2 hlv
      go_wp2_with fail
      obtain ⟨b, off, rfl, hci⟩ := P3.out i hil
      obtain ⟨ra, rc, hri, r1, r2⟩ := (P4.out i hil).sl
      have HRI := Lib.hid (show SI w (.slice ra (ri L i).length rc) (ri L i) by rw [← hri]; exact P4.out i hil)
      rw [hri] at hci
      clear hri
      have HCI := Lib.hid hci
      clear hci
      refine wp_name fun a0 ha0 => ?_
      have z0 : a0.eval (.tmp 0) = .int .i64 (N : Int) := by rw [ha0]; rfl
      have z1 : a0.eval (.tmp 1) = .slice (some ⟨b, off, none⟩) L.length pc := by rw [ha0]; rfl
      have z8 : a0.eval (.tmp 8) = .int .i64 (i : Int) := by rw [ha0]; rfl
      have z9 : a0.eval (.tmp 9) = lv := by rw [ha0]; rfl
      refine wp_region_iqg pb12d (pb12P w N lv (some ⟨b, off, none⟩) pc L i w2.heap.size b off (.slice ra (ri L i).length rc)) pb12C (fun w' => Below w2.heap.size w2 w') pb12D (by kernel_rfl) (fun i j h => by
              have h' : ¬ j < 16 ∨ ¬ i < 16 := h
              unfold pb12D; simp; omega) mixed (by kernel_rfl) (by rw [show a0.tmps.size = 129 by rw [ha0]; rfl]; kernel_rfl) (by kernel_rfl) (Below.refl _ _).drew ?_ ?_ ?_
      · intro j op j' b' hop hg
        have hj16 : j < 16 := (Array.getElem?_eq_some_iff.1 hop).1
        have hcase : j = 0 ∨ j = 1 ∨ j = 2 ∨ j = 3 ∨ j = 4 ∨ j = 5 ∨ j = 6 ∨ j = 7 ∨ j = 8 ∨ j = 9 ∨ j = 10 ∨ j = 11 ∨ j = 12 ∨ j = 13 ∨ j = 14 ∨ j = 15 := by omega
        rcases hcase with h | h | h | h | h | h | h | h | h | h | h | h | h | h | h | h <;> subst h <;> have ho' := Option.some.inj hop <;> subst ho'
        all_goals
          first
          | (cases hg; done)
          | (obtain ⟨rfl, rfl⟩ := Prod.mk.inj (Option.some.inj hg)
             exact ⟨fun k => by unfold pb12C; simp, fun v W h => h⟩)
      · rintro j op a w7 hop hdep hsm hb K hK
        have hj16 : j < 16 := (Array.getElem?_eq_some_iff.1 hop).1
        have q0 := (hsm.eval (m := 0) (by decide)).trans z0
        have q1 := (hsm.eval (m := 1) (by decide)).trans z1
        have q8 := (hsm.eval (m := 8) (by decide)).trans z8
        have q9 := (hsm.eval (m := 9) (by decide)).trans z9
        have dv : ∀ e' ∈ op.after, Region.binds .any e' = true → (∀ k, k ≠ j → pb12D k j = false → pb12C k e'.on = false) → (pb12P w N lv (some ⟨b, off, none⟩) pc L i w2.heap.size b off (.slice ra (ri L i).length rc)) e'.on (a.eval (.tmp (pb12d e'.on))) w7 := fun e he hbi hc => hdep e he hbi hc
        have hn : ∀ v, (pb12P w N lv (some ⟨b, off, none⟩) pc L i w2.heap.size b off (.slice ra (ri L i).length rc)) j v w7 → K (a.put op.dst v) w7 := fun v hv => hK v w7 hb (fun _ _ _ _ _ h => h) hv
        have hbw := ext_trans HB2.out hb
        have hcase : j = 0 ∨ j = 1 ∨ j = 2 ∨ j = 3 ∨ j = 4 ∨ j = 5 ∨ j = 6 ∨ j = 7 ∨ j = 8 ∨ j = 9 ∨ j = 10 ∨ j = 11 ∨ j = 12 ∨ j = 13 ∨ j = 14 ∨ j = 15 := by omega
        rcases hcase with h | h | h | h | h | h | h | h | h | h | h | h | h | h | h | h <;> subst h <;> have ho' := Option.some.inj hop <;> subst ho'
        · exact vl_move (.tmp 0) rfl _ q0 (hn _ rfl)
        · exact vl_move (.tmp 9) rfl _ q9 (hn _ rfl)
        · refine vl_call2 15 _ _ (.tmp 55) (.tmp 56) rfl enter_Covers _ _ (dv ⟨0, .data⟩ (by simp) rfl (fun k hk hd => by unfold pb12D at hd; unfold pb12C; simp at hd ⊢; try omega)) (dv ⟨1, .data⟩ (by simp) rfl (fun k hk hd => by unfold pb12D at hd; unfold pb12C; simp at hd ⊢; try omega)) ?_
          refine (Covers_any (N : Int) lv (lessL L i) w7 ((HLV.out.below hb).ss hbw) HSH.out (by simp [lessL]; omega)).mono ?_
          rintro e w8 ⟨rfl, hb8⟩
          rw [covers_less HCV.out hil]
          exact ⟨_, rfl, hK _ w8 (hb.trans (hb8.mono hb.size)) (fun j' u' _ _ _ h => pb12_mono hb8 j' u' h) rfl⟩
        · exact vl_move (.tmp 57) rfl _ (dv ⟨2, .data⟩ (by simp) rfl (fun k hk hd => by unfold pb12D at hd; unfold pb12C; simp at hd ⊢; try omega)) (hn _ rfl)
        · exact vl_move (.tmp 0) rfl _ q0 (hn _ rfl)
        · exact wp_slice0R rfl (hK _ _ (below_alloc hb _) (fun j' u' _ _ _ h => pb12_mono (below_alloc (Below.refl _ _) _) j' u' h) ⟨OwnR_empty w w7 _ hb.size, _, rfl, by simp, World.alloc_heap_new _ _⟩)
        · exact vl_move (.tmp 1) rfl _ q1 (hn _ rfl)
        · obtain ⟨g5, g, e5, g5l, g5h⟩ := (dv ⟨5, .data⟩ (by simp) rfl (fun k hk hd => by unfold pb12D at hd; unfold pb12C; simp at hd ⊢; try omega))
          obtain ⟨C, hsl, hsi⟩ := H.out.src
          have g6 : Sl w7 (a.eval (.tmp 61)) L.length C := by
            rw [show a.eval (.tmp 61) = _ from (dv ⟨6, .data⟩ (by simp) rfl (fun k hk hd => by unfold pb12D at hd; unfold pb12C; simp at hd ⊢; try omega))]
            exact hsl.keep hbw
          refine wp_app_rows (.tmp 60) (.tmp 61) rfl w2.heap.size _ _ [] L rfl rfl (show OwnR w w7 w2.heap.size (a.eval (.tmp 60)) [] from g5) g6 (fun q hq => .inl (hsi q hq)) (by simp; omega) hb.size fun v' w8 ho hg hat => ?_
          rw [show a.eval (.tmp 60) = _ from e5] at hg
          exact hK v' w8 (hb.grown hg hb.size (fun k hk => (OwnR.lt (show OwnR w w7 w2.heap.size (.slice (some ⟨g, 0, none⟩) 0 0) [] by rw [← e5]; exact g5) k hk).1)) (fun j' u' h5 hc hd h => pb12_app7 hg g5h j' u' h5 hc hd h) (show OwnR w w8 w2.heap.size v' L by simpa using ho)
        · exact vl_move (.tmp 1) rfl _ q1 (hn _ rfl)
        · exact vl_move (.tmp 8) rfl _ q8 (hn _ rfl)
        · exact ix_rows (.tmp 63) (.tmp 64) b off L.length pc i rfl (dv ⟨8, .data⟩ (by simp) rfl (fun k hk hd => by unfold pb12D at hd; unfold pb12C; simp at hd ⊢; try omega)) (dv ⟨9, .data⟩ (by simp) rfl (fun k hk hd => by unfold pb12D at hd; unfold pb12C; simp at hd ⊢; try omega)) hil (by omega) (hn _ rfl)
        · exact vl_load 24 agg_ints (.tmp 65) rfl _ _ (dv ⟨10, .data⟩ (by simp) rfl (fun k hk hd => by unfold pb12D at hd; unfold pb12C; simp at hd ⊢; try omega)) (cell_keep hbw HCI.out) (hn _ rfl)
        · exact wp_slice2 (.tmp 66) rfl ra (ri L i).length rc (dv ⟨11, .data⟩ (by simp) rfl (fun k hk hd => by unfold pb12D at hd; unfold pb12C; simp at hd ⊢; try omega)) (hK _ _ (below_alloc hb _) (fun j' u' _ _ _ h => pb12_mono (below_alloc (Below.refl _ _) _) j' u' h) ⟨_, rfl, by simp, World.alloc_heap_new _ _⟩)
        · have g7 : OwnR w w7 w2.heap.size (a.eval (.tmp 62)) L := (dv ⟨7, .data⟩ (by simp) rfl (fun k hk hd => by unfold pb12D at hd; unfold pb12C; simp at hd ⊢; try omega))
          obtain ⟨g, e12, gl, gh⟩ := (dv ⟨12, .data⟩ (by simp) rfl (fun k hk hd => by unfold pb12D at hd; unfold pb12C; simp at hd ⊢; try omega))
          have gc : w7.cell? ⟨g, 0, none⟩ = some (.slice ra (ri L i).length rc) := by rw [Lib.cell_of_heap gh]; rfl
          have g12 : Sl w7 (a.eval (.tmp 67)) [ri L i].length (fun _ => .slice ra (ri L i).length rc) := by
            rw [show a.eval (.tmp 67) = _ from e12]
            refine ⟨_, 1, rfl, Nat.le_refl _, by unfold maxLen; omega, fun q hq => ⟨g, 0, rfl, ?_⟩⟩
            obtain rfl : q = 0 := by simp at hq; omega
            exact gc
          have hr1 : ∀ q, q < [ri L i].length → SI w (.slice ra (ri L i).length rc) (ri [ri L i] q) := fun q hq => by
            obtain rfl : q = 0 := by simp at hq; omega
            exact HRI.out
          exact wp_app_rows (.tmp 62) (.tmp 67) rfl w2.heap.size _ _ L [ri L i] rfl rfl g7 g12 (fun q hq => .inl (hr1 q hq)) (by simp; omega) hb.size fun v' w8 ho hg hat =>
            hK v' w8 (hb.grown hg hb.size (fun k hk => (g7.lt k hk).1)) (fun j' u' h5 hc hd h => pb12_app13 j' u' h5 hc hd h) ho
        · have g13 : OwnR w w7 w2.heap.size (a.eval (.tmp 68)) (L ++ [ri L i]) := (dv ⟨13, .data⟩ (by simp) rfl (fun k hk hd => by unfold pb12D at hd; unfold pb12C; simp at hd ⊢; try omega))
          refine vl_call2 15 _ _ (.tmp 59) (.tmp 68) rfl enter_Covers _ _ (dv ⟨4, .data⟩ (by simp) rfl (fun k hk hd => by unfold pb12D at hd; unfold pb12C; simp at hd ⊢; try omega)) rfl ?_
          refine (Covers_any (N : Int) _ (L ++ [ri L i]) w7 (g13.ss hbw) g13.shape (by simp; omega)).mono ?_
          rintro e w8 ⟨rfl, hb8⟩
          rw [covers_twice HCV.out hil]
          exact ⟨_, rfl, hK _ w8 (hb.trans (hb8.mono hb.size)) (fun j' u' _ _ _ h => pb12_mono hb8 j' u' h) rfl⟩
        · exact vl_pick (.tmp 58) (.const (.bool true)) (.tmp 69) rfl false _ _ (dv ⟨3, .data⟩ (by simp) rfl (fun k hk hd => by unfold pb12D at hd; unfold pb12C; simp at hd ⊢; try omega)) rfl (dv ⟨14, .data⟩ (by simp) rfl (fun k hk hd => by unfold pb12D at hd; unfold pb12C; simp at hd ⊢; try omega)) (hn _ rfl)
      rintro a6 w3 hs6 hb3 hv6
      have hs70 : a6.eval (.tmp 70) = .bool false := hv6 15 (by decide) (fun k => by unfold pb12C; simp)
      have hsm' : Sm [55, 56, 57, 58, 59, 60, 61, 62, 63, 64, 65, 66, 67, 68, 69, 70] a0 a6 := hs6
      have HA := hsm'.lit
      simp only [List.foldl] at HA
      rw [hs70] at HA
      generalize a6.eval (.tmp 55) = t55 at HA
      generalize a6.eval (.tmp 56) = t56 at HA
      generalize a6.eval (.tmp 57) = t57 at HA
      generalize a6.eval (.tmp 58) = t58 at HA
      generalize a6.eval (.tmp 59) = t59 at HA
      generalize a6.eval (.tmp 60) = t60 at HA
      generalize a6.eval (.tmp 61) = t61 at HA
      generalize a6.eval (.tmp 62) = t62 at HA
      generalize a6.eval (.tmp 63) = t63 at HA
      generalize a6.eval (.tmp 64) = t64 at HA
      generalize a6.eval (.tmp 65) = t65 at HA
      generalize a6.eval (.tmp 66) = t66 at HA
      generalize a6.eval (.tmp 67) = t67 at HA
      generalize a6.eval (.tmp 68) = t68 at HA
      generalize a6.eval (.tmp 69) = t69 at HA
      rw [HA, ha0]
      simp only [Act.put, List.setIfInBounds_toArray, List.set_cons_zero, List.set_cons_succ]
      clear HA
      clear hs6 hsm' ha0 z0 z1 z8 z9 hv6 hs70
      have HB3 := Lib.hid (ext_trans HB2.out hb3)
      have HLV3 := Lib.hid (HLV.out.below hb3)
      have hbb3 := hb3.size
      have HB123 := Lib.hid (HB12.out.trans (hb3.mono hbb2))
      clear hb3 HLV
      have hci3 := cell_keep HB3.out HCI.out
      have hpl : (i : Int) < L.length := by omega
      have hpc : (i : Int) < pc := by omega
      have hp0 : (0 : Int) ≤ i := by omega
      have hrl := HLE.out
      have HU := Lib.hid (show (ri L i).length ≤ 40 from HLE.out)
      obtain ⟨u, hu⟩ : ∃ u, u = ri L i := ⟨_, rfl⟩
      have HEQ := Lib.hid hu
      rw [← hu] at hrl HRI HCI hci3
      clear hu
      by_cases huN : u.length = N
      · have hd : ((u.length : Int) == (N : Int)) = true := by rw [beq_iff_eq]; omega
        go_wp2_with fail
        refine (HA.out _ HB3.out).mono ?_
        rintro e w4 ⟨rfl, hb4⟩
        have HB4 := Lib.hid (ext_trans HB3.out hb4)
        clear hb4
        go_wp2_with fail
        go_ret
        exact ⟨rfl, HB4.out⟩
      have hd : ((u.length : Int) == (N : Int)) = false := by rw [beq_eq_false_iff_ne]; omega
      have HPART : Hid (coversV N (lessL L i ++ extL u N) = true) := Lib.hid (by rw [HEQ.out]; exact covers_parts HCV.out hil (by rw [← HEQ.out]; exact huN))
      have HLL : Hid ((lessL L i).length ≤ 200) := Lib.hid (by show _ ≤ 200; simp [lessL]; omega)
      have HB13 := Lib.hid (show w1.heap.size ≤ w3.heap.size by omega)
      clear huN
      go_wp2_with fail
      clear hd hci3
      go_loopw [9, 10, 11, 12] (fun lv job _ _ wr => ∃ k : Nat, k ≤ N ∧ job = .int .i64 k ∧ Hid (Below w1.heap.size w1 wr) ∧ Hid (OwnR w wr w1.heap.size lv (lessL L i ++ extL u k))) (fun _ job _ _ _ => N - (intOf job).toNat)
      case atStart => exact ⟨0, Nat.zero_le _, rfl, HB123, by rw [show extL u 0 = [] from rfl, List.append_nil]; exact HLV3⟩
      case round =>
        obtain ⟨k, hk, rfl, hbw, how⟩ := hrel
        have HBW := Lib.hid (ext_trans HB1.out hbw.out)
        by_cases hlt : k < N
        · have hkn : (k : Int) < N := by omega
          have hk32 : (k : Int) < 32 := by omega
          have hcw := cell_keep HBW.out HCI.out
          obtain ⟨_, _, hue, u1, u2, u3⟩ := HRI.out
          simp only [Value.slice.injEq] at hue
          obtain ⟨rfl, _, rfl⟩ := hue
          have U3 := Lib.hid u3
          clear u3
          go_wp2_with fail
          obtain ⟨W, hW⟩ : ∃ W, W = wr := ⟨_, rfl⟩
          rw [← hW] at hbw how HBW hcw ⊢
          clear hW
          go_loopw [11, 12] (fun hs jj w5 => ∃ j : Nat, j ≤ u.length ∧ jj = .int .i64 j ∧ hs = .bool (hasJ u k j) ∧ (∃ q, w5 = W.drewN q)) (fun _ jj _ => u.length - (intOf jj).toNat)
          case atStart => exact ⟨0, Nat.zero_le _, rfl, by simp [hasJ], ⟨0, rfl⟩⟩
          case round =>
            obtain ⟨j, hj, rfl, rfl, ⟨q5, rfl⟩⟩ := hrel
            by_cases hlj : j < u.length
            · obtain ⟨sb, so, rfl, cx⟩ := U3.out j hlj
              replace cx : w.cell? ⟨sb, so + j, none⟩ = some (.int .i64 (gi u j)) := cx
              have cxw := cell_keep HBW.out cx
              clear cx
              have hj0 : (0 : Int) ≤ j := by omega
              have hjl : (j : Int) < u.length := by omega
              have hjc : (j : Int) < rc := by omega
              have HS := Lib.hid (hasJ_succ (k := k) hlj)
              generalize gi u j = x at *
              cases hb5 : hasJ u k j
              · rw [hb5, Bool.false_or] at HS
                obtain ⟨y, hy⟩ : ∃ y, y = (x == (k : Int)) := ⟨_, rfl⟩
                rw [← hy] at HS
                have hy' := hy.symm
                clear hb5 hy
                go_wp2_with fail
                go_roundw
                case rel => exact ⟨j + 1, by omega, by go_num, congrArg Value.bool HS.out.symm, (by first | exact ⟨_, rfl⟩ | exact dn2 _ _ _)⟩
                case measure => simp [intOf]; omega
              · rw [hb5, Bool.true_or] at HS
                clear hb5
                go_wp2_with fail
                go_roundw
                case rel => exact ⟨j + 1, by omega, by go_num, congrArg Value.bool HS.out.symm, (by first | exact ⟨_, rfl⟩ | exact dn2 _ _ _)⟩
                case measure => simp [intOf]; omega
            · obtain rfl : j = u.length := by omega
              rw [hasJ_end]
              have hbd := below_drewN' (Below.refl W.heap.size W) q5
              have HBWD := Lib.hid (below_drewN' HBW.out q5)
              have HOWD := Lib.hid (how.out.below hbd)
              have hB1 : w1.heap.size ≤ (W.drewN q5).heap.size := hbw.out.size
              have HB3D := Lib.hid (below_drewN' hbw.out q5)
              have HEX := Lib.hid (show lessL L i ++ extL u (k + 1) = if u.any (fun y => (k : Int) == y) then lessL L i ++ extL u k else lessL L i ++ extL u k ++ [u ++ [(k : Int)]] from ext_app _ u k)
              have HXL := Lib.hid (show (extL u k).length ≤ k from extL_len u k)
              obtain ⟨Wd, hWd⟩ : ∃ Wd, Wd = W.drewN q5 := ⟨_, rfl⟩
              rw [← hWd] at HBWD HOWD hB1 HB3D ⊢
              have hcd := cell_keep HBWD.out HCI.out
              have hcd2 := cell_keep (below_alloc HBWD.out (.cells #[] 3)) HCI.out
              clear hWd hbd how hcw hj
              cases hany : u.any fun y => (k : Int) == y
              · rw [hany, if_neg (by decide)] at HEX
                clear hany
                go_wp2_with (at_builtin; refine wpList_app_int rfl (.tmp 112) (.tmp 116) rfl Wd.heap.size _ _ [] u rfl rfl (OwnI_empty _ _ (Nat.le_refl _)) ((HRI.out.keep HBWD.out).alloc _) (by simp; omega) (by simp) ?_)
                intro v1 x1 ho1 hg1 _
                have hb1 : Below Wd.heap.size Wd x1 := (below_alloc (Below.refl _ _) _).grown hg1 (by simp) (fun k hk => (World.ownsRow.lt (OwnI_empty Wd Wd.heap.size (Nat.le_refl _)) k hk).1)
                obtain ⟨a1, n1, c1, rfl⟩ := ho1.sl
                have HO1 := Lib.hid ho1; have HX1 := Lib.hid hb1
                clear ho1 hg1 hb1
                have hx1 := HX1.out.size
                go_wp2_with (at_builtin; refine wpList_app_int rfl (.tmp 117) (.tmp 119) rfl Wd.heap.size _ _ u [(k : Int)] rfl rfl (HO1.out.alloc _) (SI_one _ _ _) (by simp; omega) (by simp; omega) ?_)
                intro v2 x2 ho2 hg2 _
                have hb2 : Below Wd.heap.size Wd x2 := (HX1.out.alloc hx1 _).grown hg2 (by simp; omega) (fun k hk => (World.ownsRow.lt HO1.out k hk).1)
                obtain ⟨a2, n2, c2, rfl⟩ := ho2.sl
                have HO2 := Lib.hid ho2; have HX2 := Lib.hid hb2
                clear ho2 hg2 hb2
                have hx2 := HX2.out.size
                have hrk : ∀ q, q < [u ++ [(k : Int)]].length → RowOk w (x2.alloc (.cells #[.slice a2 n2 c2] 24)) w1.heap.size ((fun _ => Value.slice a2 n2 c2) q) (ri [u ++ [(k : Int)]] q) := fun q hq => by
                  obtain rfl : q = 0 := by simpa using hq
                  exact .inr ((HO2.out.mono hB1).alloc _)
                have hll : (lessL L i ++ extL u k).length + [u ++ [(k : Int)]].length ≤ 1000000 := by have := HLL.out; have := HXL.out; simp only [List.length_append, List.length_singleton]; omega
                have HRK := Lib.hid hrk; have HLK := Lib.hid hll
                clear hrk hll
                go_wp2_with (at_builtin; refine wpList_app_rows rfl (.tmp 111) (.tmp 121) rfl w1.heap.size _ _ (lessL L i ++ extL u k) [u ++ [(k : Int)]] rfl rfl ((HOWD.out.below HX2.out).alloc _) (C := fun _ => .slice a2 n2 c2) (Sl_one' (by simp)) HRK.out HLK.out (by simp; omega) ?_)
                intro v3 x3 ho3 hg3 _
                have hbq : Below w1.heap.size w1 x3 := ((HB3D.out.trans (HX2.out.mono hB1)).alloc (by omega) _).grown hg3 (by simp; omega) (fun k hk => (HOWD.out.lt k hk).1)
                rw [← List.append_assoc, ← HEX.out] at ho3
                have HO3 := Lib.hid ho3; have HX3 := Lib.hid hbq
                clear ho3 hg3 hbq
                go_wp2_with fail
                go_roundw
                case rel => exact ⟨k + 1, by omega, by go_num, HX3, HO3⟩
                case measure => simp [intOf]; omega
              · rw [hany, if_pos rfl] at HEX
                have HO3 := Lib.hid (show OwnR w Wd w1.heap.size u9 (lessL L i ++ extL u (k + 1)) by rw [HEX.out]; exact HOWD.out)
                clear hany
                go_wp2_with fail
                go_roundw
                case rel => exact ⟨k + 1, by omega, by go_num, HB3D, HO3⟩
                case measure => simp [intOf]; omega
        · obtain rfl : k = N := by omega
          have hkn : decide ((k : Int) < k) = false := by rw [decide_eq_false_iff_not]; omega
          have hssl := how.out.ss HBW.out
          have hshl := how.out.shape
          have HS4 := Lib.hid hssl; have HSH4 := Lib.hid hshl
          have HLEN := Lib.hid (show (lessL L i ++ extL u k).length ≤ 100000 by rw [List.length_append]; have := HLL.out; have := extL_len u k; omega)
          clear hssl hshl
          go_wp2_with fail
          refine (Covers_any (k : Int) _ (lessL L i ++ extL u k) wr HS4.out HSH4.out HLEN.out).mono ?_
          rintro e w4 ⟨rfl, hb4⟩
          rw [HPART.out]
          have HB4 := Lib.hid (ext_trans HBW.out hb4)
          clear hb4
          go_wp2_with fail
          refine (HA.out _ HB4.out).mono ?_
          rintro e w5 ⟨rfl, hb5⟩
          have HB5 := Lib.hid (ext_trans HB4.out hb5)
          clear hb5
          go_wp2_with fail
          go_ret
          exact ⟨rfl, HB5.out⟩
end Go.Proofs.YtehbnckdllbmgaaGreatDoor
