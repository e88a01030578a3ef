/- Contracts: a number in base sixteen by the library, and padded by zeros. -/
import Derived.Test.YtjbegegjpepkjaaDoorTraB
import Derived.Laws.BitsAll
import Derived.Lib.AppendIntMem
namespace Go.Proofs.YtjbegegjpepkjaaDoor
open Go.RowKit

/-- what the library's own variables hold -/
def Vars (w : World) : Prop := MLen w ∧ Lib.TabIs Tryd.prog w "internal/strconv.uint64pow10" .u64 Lib.pow10Tab ∧ w.cell? ⟨3, 15, none⟩ = some (.int .u8 4)
theorem Vars.keep {w w' : World} (h : Vars w) (hb : Below w.heap.size w w') : Vars w' :=
  ⟨h.1.keep hb, (Lib.tabBelow_of_tabIs h.2.1).on hb |>.here, cell_keep hb h.2.2⟩

def zeros65 : Array Value := #[.int .u8 0, .int .u8 0, .int .u8 0, .int .u8 0, .int .u8 0, .int .u8 0, .int .u8 0, .int .u8 0, .int .u8 0, .int .u8 0, .int .u8 0, .int .u8 0, .int .u8 0, .int .u8 0, .int .u8 0, .int .u8 0, .int .u8 0, .int .u8 0, .int .u8 0, .int .u8 0, .int .u8 0, .int .u8 0, .int .u8 0, .int .u8 0, .int .u8 0, .int .u8 0, .int .u8 0, .int .u8 0, .int .u8 0, .int .u8 0, .int .u8 0, .int .u8 0, .int .u8 0, .int .u8 0, .int .u8 0, .int .u8 0, .int .u8 0, .int .u8 0, .int .u8 0, .int .u8 0, .int .u8 0, .int .u8 0, .int .u8 0, .int .u8 0, .int .u8 0, .int .u8 0, .int .u8 0, .int .u8 0, .int .u8 0, .int .u8 0, .int .u8 0, .int .u8 0, .int .u8 0, .int .u8 0, .int .u8 0, .int .u8 0, .int .u8 0, .int .u8 0, .int .u8 0, .int .u8 0, .int .u8 0, .int .u8 0, .int .u8 0, .int .u8 0, .int .u8 0]
theorem zeros65_eq : zeros65 = Array.replicate 65 (.int .u8 0) := rfl
theorem zeros65_at (i : Nat) (h : i < 65) : zeros65[i]? = some (.int .u8 0) := by rw [zeros65_eq, Array.getElem?_replicate, if_pos h]
def digS : ByteArray := ⟨#[48, 49, 50, 51, 52, 53, 54, 55, 56, 57, 97, 98, 99, 100, 101, 102, 103, 104, 105, 106, 107, 108, 109, 110, 111, 112, 113, 114, 115, 116, 117, 118, 119, 120, 121, 122]⟩
theorem digS_fin : ∀ r : Fin 16, digS.data[r.val]? = some (hexD r.val) := by decide +kernel
theorem digS_at (w : World) (r : Nat) (h : r < 16) : (Instr.index 9 (.string digS) (.int .u64 (r : Int))).run Tryd.prog w = .ok (.int .u8 (hexD r).toNat) w := by
  have h2 : digS.size = 36 := rfl
  have h3 := digS_fin ⟨r, h⟩
  rw [run_index_string (P := Tryd.prog) w 9 digS .u64 (r : Int) Tryd.underlying9]
  rw [dif_pos (by omega)]
  have h4 : r < digS.size := by omega
  have h5 : (digS[r]'h4) = hexD r := by
    have : digS.data[r]? = some (digS[r]'h4) := Array.getElem?_eq_getElem h4
    rw [h3] at this; exact (Option.some.inj this).symm
  show Result.ok (Value.int .u8 ((digS[((r : Int)).toNat]'_).toNat : Int)) w = _
  simp only [Int.toNat_natCast, h5]

/-- the array so far: from i on the digits l -/
def HexA (w : World) (g i : Nat) (l : List UInt8) : Prop :=
  i + l.length = 65 ∧ (∀ j, j < 65 → w.frozen? ⟨g, j, none⟩ = false) ∧ (∀ j, j < i → w.cell? ⟨g, j, none⟩ = some (.int .u8 0)) ∧ (∀ j (h : j < l.length), w.cell? ⟨g, i + j, none⟩ = some (.int .u8 (l[j].toNat : Int)))
theorem HexA.start (w : World) : HexA (w.alloc (.cells zeros65 105)) w.heap.size 65 [] :=
  ⟨rfl, fun j _ => World.frozen?_alloc_new _ _ _ _, fun j hj => by rw [World.cell?_alloc_new]; exact zeros65_at j hj, fun j h => by simp at h⟩
theorem HexA.step {w : World} {g i : Nat} {l : List UInt8} (h : HexA w g (i + 1) l) (c : UInt8) : HexA (w.setCell ⟨g, i, none⟩ (.int .u8 (c.toNat : Int))) g i (c :: l) := by
  obtain ⟨h1, h2, h3, h4⟩ := h
  refine ⟨by rw [List.length_cons]; omega, fun j hj => by rw [World.frozen?_setCell]; exact h2 j hj, fun j hj => ?_, fun j hj => ?_⟩
  · rw [World.cell?_setCell_other _ _ _ _ (by simp <;> omega)]; exact h3 j (by omega)
  · cases j with
    | zero => exact World.cell?_setCell_same _ _ _ (h3 i (by omega))
    | succ j =>
      rw [World.cell?_setCell_other _ _ _ _ (by simp)]
      have := h4 j (by simpa using hj)
      rw [show i + (j + 1) = i + 1 + j by omega]; exact this
theorem hexN_pos (n : Nat) : 1 ≤ (hexN n).length := by
  by_cases h : n < 16
  · rw [hexN_small h]; simp
  · rw [hexN_big h]; simp
theorem hexN_le {n : Nat} (h : n < 18446744073709551616) : (hexN n).length ≤ 16 := hexN_len 16 n (by omega) (Nat.lt_of_lt_of_eq h (show 18446744073709551616 = 16 ^ 16 by decide +kernel))

theorem pow2_16 (w : World) : Calls Tryd.prog 72 #[.int .i64 16] w fun e w' => e = .returned (.bool true) ∧ w = w' := by
  go_enter Tryd.func72, Tryd.ntmps72
  go_wp2_with fail
  go_ret
  exact ⟨ret_bool (by decide +kernel), rfl⟩
theorem tz64_16 (w : World) (h : w.cell? ⟨3, 15, none⟩ = some (.int .u8 4)) : Calls Tryd.prog 79 #[.int .u64 16] w fun e w' => e = .returned (.int .i64 4) ∧ w = w' := by
  have e1 : IntKind.u64.wrap (-16) = 18446744073709551600 := by decide +kernel
  have e2 : bits .and .u64 16 18446744073709551600 = 16 := by decide +kernel
  have e3 : IntKind.u64.wrap (16 * 285870213051353865) = 4573923408821661840 := by decide +kernel
  go_enter Tryd.func79, Tryd.ntmps79
  go_wp2_with fail
  go_ret
  exact ⟨rfl, rfl⟩
theorem tz_16 (w : World) (h : w.cell? ⟨3, 15, none⟩ = some (.int .u8 4)) : Calls Tryd.prog 73 #[.int .u64 16] w fun e w' => e = .returned (.int .i64 4) ∧ w = w' := by
  have H := Lib.hid h
  clear h
  go_enter Tryd.func73, Tryd.ntmps73
  go_wp2_with fail
  refine (tz64_16 _ H.out).mono ?_
  rintro e w1 ⟨rfl, rfl⟩
  go_wp2_with fail
  go_ret
  exact ⟨rfl, rfl⟩

theorem slice65 (w : World) (g k : Nat) (hk : k ≤ 64) : (Instr.sliceAt 105 (.pointer (some ⟨g, 0, none⟩)) (some (.int .i64 (k : Int))) none none).run Tryd.prog w = .ok (.slice (some ⟨g, k, none⟩) (65 - k) (65 - k)) w := by
  have hal : Tryd.prog.arrayLen 105 = 65 := by simp [Program.arrayLen, Tryd.underlying105]
  rw [run_sliceAt_array_l w 105 ⟨g, 0, none⟩ (by simp [Program.arrayLen, Program.elem, Tryd.underlying105]) .i64 (k : Int) (by omega) (by rw [hal]; omega)]
  rw [hal]
  go_simp
  omega
set_option maxHeartbeats 2000000 in
set_option maxRecDepth 100000 in
theorem bits16_any (N : Nat) (w : World) (hN : N < 18446744073709551616) (h : w.cell? ⟨3, 15, none⟩ = some (.int .u8 4)) :
    Calls Tryd.prog 62 #[.slice none 0 0, .int .u64 N, .int .i64 16, .bool false, .bool false] w fun e w' => e = .returned (.tuple #[.slice none 0 0, .string ⟨(hexN N).toArray⟩]) ∧ Below w.heap.size w w' := by
  have H := Lib.hid (cell_alloc' h (.cells zeros65 105))
  clear h
  have HS := Lib.hid (HexA.start w)
  unfold zeros65 at H HS
  go_enter Tryd.func62, Tryd.ntmps62
  go_wp2_with fail
  go_outline
  refine (pow2_16 _).mono ?_
  rintro e w1 ⟨rfl, rfl⟩
  go_wp2_with fail
  refine (tz_16 _ H.out).mono ?_
  rintro e w1 ⟨rfl, rfl⟩
  go_wp2_with fail
  go_loopw [1, 13] (fun u i wr => ∃ (m k : Nat) (l : List UInt8), u = .int .u64 m ∧ i = .int .i64 k ∧ m < 18446744073709551616 ∧ 49 ≤ k ∧ k ≤ 65 ∧ Hid (hexN m ++ l = hexN N) ∧ Hid (HexA wr w.heap.size k l) ∧ Hid (Below w.heap.size w wr)) (fun u _ _ => (intOf u).toNat)
  case atStart => exact ⟨N, 65, [], rfl, rfl, hN, by omega, by omega, by show _ = _; simp, HS.out, (Below.refl _ _).alloc (Nat.le_refl _) _⟩
  case round =>
    obtain ⟨m, k, l, rfl, rfl, hm, hk1, hk2, HL, HA, hbw⟩ := hrel
    have hkl : k - 1 + l.length = 64 := by have := HA.out.1; omega
    have hlen : (hexN m).length + l.length ≤ 16 := by
      have := congrArg List.length HL.out
      rw [List.length_append] at this
      have := hexN_le hN
      omega
    have hpos := hexN_pos m
    obtain ⟨k', rfl⟩ : ∃ k', k = k' + 1 := ⟨k - 1, by omega⟩
    have hk3 : 48 < k' := by
      by_cases h16 : m < 16
      · omega
      · have := hexN_pos (m / 16); rw [hexN_big h16, List.length_append] at hlen; simp at hlen; omega
    have hcells := HA.out.2.2.1
    have hfz := HA.out.2.1
    have c1 := hcells k' (by omega)
    have f1 := hfz k' (by omega)
    have hws := hbw.out.size
    have i1 : ((k' + 1 : Nat) : Int) - 1 = k' := by omega
    have i2 : (k' : Int) < 65 := by omega
    have hk5 : k' < 65 := by omega
    clear hcells hfz hkl hlen hpos hk1 hk2
    by_cases h16 : m < 16
    · have b1 : decide ((16 : Int) ≤ m) = false := by rw [decide_eq_false_iff_not]; omega
      have hx := fun W : World => digS_at W m h16
      have HST := Lib.hid (HA.out.step (hexD m))
      unfold digS at hx
      have HF : Hid (hexD m :: l = hexN N) := by show _ = _; rw [← HL.out, hexN_small h16]; rfl
      obtain ⟨n, hn⟩ : ∃ n, 65 - k' = n := ⟨_, rfl⟩
      have HLN : Hid ((hexD m :: l).length = n) := by show _ = _; have := HST.out.1; omega
      have hsl := fun W : World => slice65 W w.heap.size k' (by omega)
      rw [hn] at hsl
      have hcv := run_convert_bytes_back (P := Tryd.prog) (wr.setCell ⟨w.heap.size, k', none⟩ (.int .u8 ((hexD m).toNat : Int))) 42 9 5 ⟨w.heap.size, k', none⟩ n (hexD m :: l) Tryd.underlying42 Tryd.underlying5 Tryd.underlying9 (fun j hj => by
        rw [Lib.add_plain]
        exact HST.out.2.2.2 j hj)
      rw [HLN.out, HF.out] at hcv
      clear hn h16
      go_wp2_with (first | simp only [hx] | simp only [hsl] | simp only [hcv])
      go_ret2
      exact ⟨rfl, hbw.out.setCell (Nat.le_refl _) _⟩
    · have b1 : decide ((16 : Int) ≤ m) = true := by rw [decide_eq_true_eq]; omega
      obtain ⟨r, hr⟩ : ∃ r, m % 16 = r := ⟨_, rfl⟩
      obtain ⟨q, hq⟩ : ∃ r, m / 16 = r := ⟨_, rfl⟩
      have hr2 : r < 16 := by omega
      have f2 : (m : Int) / 16 = q := by omega
      have e1 : bits .and .u64 (m : Int) 15 = r := by
        have := u64_and_nat m 15 hm (by omega)
        rw [show ((15 : Nat) : Int) = 15 from rfl] at this
        rw [this, Nat.and_two_pow_sub_one_eq_mod m 4]; omega
      have hx := fun W : World => digS_at W r hr2
      have HST := Lib.hid (HA.out.step (hexD r))
      unfold digS at hx
      have hq2 : q < 18446744073709551616 := by omega
      have hqm : q < m := by omega
      have HF : Hid (hexN q ++ (hexD r :: l) = hexN N) := by show _ = _; rw [← HL.out, hexN_big h16, hr, hq]; simp
      clear hr hq h16
      go_wp2_with (simp only [hx])
      go_roundw
      case rel => exact ⟨q, k', hexD r :: l, rfl, rfl, hq2, by omega, by omega, HF, HST.out, hbw.out.setCell (Nat.le_refl _) _⟩
      case measure => simp [intOf]; omega

set_option maxHeartbeats 1000000 in
theorem iFormatUint_any (N : Nat) (w : World) (hN : N < 18446744073709551616) (h : w.cell? ⟨3, 15, none⟩ = some (.int .u8 4)) :
    Calls Tryd.prog 51 #[.int .u64 N, .int .i64 16] w fun e w' => e = .returned (.string ⟨(hexN N).toArray⟩) ∧ Below w.heap.size w w' := by
  have HB := Lib.hid (bits16_any N w hN h)
  clear h
  go_enter Tryd.func51, Tryd.ntmps51
  go_wp2_with fail
  refine HB.out.mono ?_
  rintro e w1 ⟨rfl, hb⟩
  go_wp2_with fail
  go_ret
  exact ⟨rfl, hb⟩
theorem FormatUint_any (N : Nat) (w : World) (hN : N < 18446744073709551616) (h : w.cell? ⟨3, 15, none⟩ = some (.int .u8 4)) :
    Calls Tryd.prog 38 #[.int .u64 N, .int .i64 16] w fun e w' => e = .returned (.string ⟨(hexN N).toArray⟩) ∧ Below w.heap.size w w' := by
  have HB := Lib.hid (iFormatUint_any N w hN h)
  clear h
  go_enter Tryd.func38, Tryd.ntmps38
  go_wp2_with fail
  refine HB.out.mono ?_
  rintro e w1 ⟨rfl, hb⟩
  go_wp2_with fail
  go_ret
  exact ⟨rfl, hb⟩
theorem repeat_len (s : List UInt8) (c : Nat) : (Lib.repeatL s c).length = s.length * c := by
  induction c with
  | zero => rfl
  | succ c ih => rw [show Lib.repeatL s (c + 1) = s ++ Lib.repeatL s c from rfl, List.length_append, ih, Nat.mul_succ, Nat.add_comm]
theorem repeat_one (c : UInt8) (k : Nat) : Lib.repeatL [c] k = List.replicate k c := by
  induction k with
  | zero => rfl
  | succ k ih => rw [show Lib.repeatL [c] (k + 1) = [c] ++ Lib.repeatL [c] k from rfl, List.replicate_succ, ih]; rfl
set_option maxHeartbeats 1000000 in
theorem hex_any (N : Nat) (w : World) (hN : N < 18446744073709551616) (h : w.cell? ⟨3, 15, none⟩ = some (.int .u8 4)) :
    Calls Tryd.prog 26 #[.int .u64 N] w fun e w' => e = .returned (.string ⟨(hexL N).toArray⟩) ∧ Below w.heap.size w w' := by
  have HB := Lib.hid (FormatUint_any N w hN h)
  clear h
  have hp := hexN_pos N
  have hl := hexN_le hN
  obtain ⟨z, hz⟩ : ∃ z : ByteArray, (⟨(hexN N).toArray⟩ : ByteArray) = z := ⟨_, rfl⟩
  rw [hz] at HB
  have hzs : z.size = (hexN N).length := by rw [← hz]; rfl
  have hz1 : 1 ≤ z.size := by omega
  have hz2 : z.size ≤ 16 := by omega
  obtain ⟨c, hc⟩ : ∃ c, 16 - z.size = c := ⟨_, rfl⟩
  have hc2 : (16 : Int) - z.size = c := by omega
  have HX : Hid ((⟨(Lib.repeatL [48] c).toArray⟩ : ByteArray) ++ z = ⟨(hexL N).toArray⟩) := by
    show _ = _
    rw [hexL_pad hN, ← hzs, hc, repeat_one, ← hz]
    apply ByteArray.ext
    simp
  have hcc : c ≤ 16 := by omega
  have HR := Lib.hid (fun W : World => Tryd.strings_Repeat ⟨#[48]⟩ c W (by omega) (by show 1 * c ≤ _; omega))
  have hrs : (⟨(Lib.repeatL [48] c).toArray⟩ : ByteArray).size ≤ 16 := by
    show (Lib.repeatL [48] c).toArray.size ≤ 16
    rw [List.size_toArray, repeat_len]; simp; omega
  have HR2 : Hid (∀ W : World, Calls Tryd.prog 39 #[.string ⟨#[48]⟩, .int .i64 c] W fun e w' => e = .returned (.string ⟨(Lib.repeatL [48] c).toArray⟩) ∧ Below W.heap.size W w') := HR.out
  clear hz hzs hc hp hl HR
  generalize (⟨(Lib.repeatL [48] c).toArray⟩ : ByteArray) = d at *
  go_enter Tryd.func26, Tryd.ntmps26
  go_wp2_with fail
  refine HB.out.mono ?_
  rintro e w1 ⟨rfl, hb⟩
  have HB1 := Lib.hid hb
  clear hb
  go_wp2_with fail
  refine (HR2.out _).mono ?_
  rintro e w2 ⟨rfl, hb⟩
  have HB2 := Lib.hid (ext_trans HB1.out hb)
  clear hb
  go_wp2_with fail
  go_ret
  exact ⟨congrArg (fun x => Ending.returned (.string x)) HX.out, HB2.out⟩
end Go.Proofs.YtjbegegjpepkjaaDoor
