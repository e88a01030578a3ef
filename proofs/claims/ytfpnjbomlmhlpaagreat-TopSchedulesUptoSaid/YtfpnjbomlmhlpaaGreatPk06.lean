/- Rows that are functions of the index; dag: ends, Order. -/
import Derived.Test.YtfpnjbomlmhlpaaGreatPk05
import Derived.Deep.Cut
import Derived.Deep.MidRow
import Derived.Maps.OwnSet
import Derived.Maps.OwnOps
import Derived.Maps.Views
import Derived.Laws.MakeOwn
set_option linter.unusedSimpArgs false
set_option linter.unusedVariables false

/- Contracts: IsId, Split, Join, Same of the reference of ident. -/
namespace Go.Proofs.YtfpnjbomlmhlpaaGreat
open Go.RowKit

theorem idB_parts {l : List UInt8} {ss : List ByteArray} (h : bl ss = cutL l) (h64 : l.length ≤ 64) (h8 : ss.length ≤ 8) (ha : ∀ j, j < ss.length → nameB (zi ss j).data.toList = true) : idB l = true := by
  unfold idB
  rw [← h, all_names ha, bl_length]
  simp; omega
theorem idB_many {l : List UInt8} {ss : List ByteArray} (h : bl ss = cutL l) (h8 : 8 < ss.length) : idB l = false := by
  unfold idB
  rw [← h, bl_length]
  have : decide (ss.length ≤ 8) = false := by rw [decide_eq_false_iff_not]; omega
  rw [this]; simp
theorem idB_bad {l : List UInt8} {ss : List ByteArray} (h : bl ss = cutL l) {j : Nat} (hj : j < ss.length) (hn : nameB (zi ss j).data.toList = false) : idB l = false := by
  rw [idB_names, ← h]; exact namesB_no hj hn

set_option maxHeartbeats 1000000 in
theorem rIsId_any (s : ByteArray) (w : World) (hs : s.size ≤ 1100000) : Calls Tryz.prog 53 #[.string s] w (Ret w (.bool (idB s.data.toList))) := by
  have hls := size_data s
  have HLS := Lib.hid hls
  clear hls
  go_enter Tryz.func53, Tryz.ntmps53
  go_wp2_with fail
  refine (rparts_any s _ hs).mono ?_
  rintro e w1 ⟨v, ss, rfl, hbl, hz, hsl, hb⟩
  have HB1 := Lib.hid hb
  have HZ1 := Lib.hid hz
  have HBL := Lib.hid hbl
  have HPL := Lib.hid (pieces_le hbl)
  obtain ⟨a, cap, e1, h1, h2, h3⟩ := hz
  subst e1
  have H3 := Lib.hid h3
  clear hb hbl h3
  by_cases h64 : 64 < s.size
  · have b1 : decide ((64 : Int) < s.size) = true := by rw [decide_eq_true_eq]; omega
    have HN := Lib.hid (idB_long h64)
    go_wp2_with fail
    go_ret
    exact ⟨ret_bool HN.out.symm, HB1.out⟩
  have b1 : decide ((64 : Int) < s.size) = false := by rw [decide_eq_false_iff_not]; omega
  by_cases h8 : 8 < ss.length
  · have b2 : decide ((8 : Int) < ss.length) = true := by rw [decide_eq_true_eq]; omega
    have HN := Lib.hid (idB_many HBL.out h8)
    go_wp2_with fail
    go_ret
    exact ⟨ret_bool HN.out.symm, HB1.out⟩
  have b2 : decide ((8 : Int) < ss.length) = false := by rw [decide_eq_false_iff_not]; omega
  go_wp2_with fail
  go_loopw [4] (fun i wr => ∃ k : Nat, k ≤ ss.length ∧ i = .int .i64 k ∧ (∃ m, wr = w1.drewN m) ∧ Hid (∀ j, j < k → nameB (zi ss j).data.toList = true)) (fun i _ => ss.length - (intOf i).toNat)
  case atStart => exact ⟨0, Nat.zero_le _, rfl, ⟨0, rfl⟩, fun j hj => by omega⟩
  case round =>
    obtain ⟨k, hk, rfl, ⟨m, rfl⟩, hj⟩ := hrel
    by_cases hlt : k < ss.length
    · obtain ⟨b, off, ha, hc⟩ := H3.out k hlt
      try dsimp only at hc
      subst ha
      have HYES : Hid (nameB (zi ss k).data.toList = true → ∀ j, j < k + 1 → nameB (zi ss j).data.toList = true) := fun h => upto hj.out h
      have HNO : Hid (nameB (zi ss k).data.toList = false → idB s.data.toList = false) := fun h => idB_bad HBL.out hlt h
      have hsz := HPL.out _ (zi_mem hlt)
      rw [HLS.out] at hsz
      obtain ⟨y, hy⟩ : ∃ y, zi ss k = y := ⟨_, rfl⟩
      rw [hy] at hc HYES HNO hsz
      clear hy hj
      go_wp2_with fail
      refine (rIsName_any y _ (by unfold maxLen; omega)).mono ?_
      rintro e w2 ⟨rfl, m2, rfl⟩
      cases hn : nameB y.data.toList
      · have HR := Lib.hid (HNO.out hn)
        clear hn
        go_wp2_with fail
        go_ret
        exact ⟨ret_bool HR.out.symm, below_drewN' HB1.out _⟩
      · have HR := Lib.hid (HYES.out hn)
        clear hn
        go_wp2_with fail
        go_roundw
        case rel => exact ⟨k + 1, by omega, by go_num, ⟨_, rfl⟩, HR.out⟩
        case measure => simp [intOf]; omega
    · have HN := Lib.hid (idB_parts HBL.out (by rw [HLS.out]; omega) (by omega) (fun j h => hj.out j (by omega)))
      go_wp2_with fail
      go_ret
      exact ⟨ret_bool HN.out.symm, below_drewN' HB1.out _⟩

/-! Join: from the left -/
def jPre (ss : List ByteArray) (k : Nat) : List UInt8 := if k = 0 then (zi ss 0).data.toList else joinL ((bl ss).take k)
theorem joinL_snoc {xs : List (List UInt8)} (h : xs ≠ []) (y : List UInt8) : joinL (xs ++ [y]) = joinL xs ++ 46 :: y := by
  induction xs with
  | nil => exact absurd rfl h
  | cons x xs ih =>
    cases xs with
    | nil => rfl
    | cons z zs =>
      have e1 := joinL_cons (x := x) (xs := z :: zs ++ [y]) (by simp)
      have e2 := joinL_cons (x := x) (xs := z :: zs) (by simp)
      rw [List.cons_append, e1, ih (by simp), e2]; simp
theorem jPre_succ {ss : List ByteArray} {k : Nat} (h : k < ss.length) : jPre ss (k + 1) = if k = 0 then jPre ss 0 else jPre ss k ++ 46 :: (zi ss k).data.toList := by
  unfold jPre
  have hk : k < (bl ss).length := by rw [bl_length]; exact h
  have e : (bl ss)[k] = (zi ss k).data.toList := by simp [bl, zi_lt h]
  rw [if_neg (by omega), List.take_succ_eq_append_getElem hk, e]
  by_cases h0 : k = 0
  · subst h0; rw [if_pos rfl, if_pos rfl]; rfl
  · rw [if_neg h0, if_neg h0, joinL_snoc]
    intro e2
    have := congrArg List.length e2
    simp only [List.length_take, bl_length, List.length_nil] at this
    omega
theorem jPre_all {ss : List ByteArray} (h : 0 < ss.length) : jPre ss ss.length = joinL (bl ss) := by
  unfold jPre; rw [if_neg (by omega), List.take_of_length_le (by rw [bl_length]; exact Nat.le_refl _)]
theorem jPre_len {ss : List ByteArray} (hn : ∀ x ∈ ss, x.size ≤ 1000) {k : Nat} (hk : k ≤ ss.length) (h0 : 0 < ss.length) : (jPre ss k).length ≤ 1000 + k * 1001 := by
  induction k with
  | zero =>
    have := hn _ (zi_mem h0)
    unfold jPre; rw [if_pos rfl, size_data]; omega
  | succ k ih =>
    have h1 := ih (by omega)
    have h2 := hn _ (zi_mem (show k < ss.length by omega))
    rw [jPre_succ (by omega)]
    split
    · have h3 := hn _ (zi_mem h0)
      unfold jPre; rw [if_pos rfl, size_data]; omega
    · rw [List.length_append, List.length_cons, size_data]; omega
theorem namesB_final {ss : List ByteArray} (h1 : 1 ≤ ss.length) (h8 : ss.length ≤ 8) (ha : ∀ j, j < ss.length → nameB (zi ss j).data.toList = true) : namesB (bl ss) = decide ((joinL (bl ss)).length ≤ 64) := by
  unfold namesB
  rw [all_names ha, bl_length]
  have e1 : decide (1 ≤ ss.length) = true := by rw [decide_eq_true_eq]; exact h1
  have e2 : decide (ss.length ≤ 8) = true := by rw [decide_eq_true_eq]; exact h8
  rw [e1, e2]; rfl
theorem namesB_count {ss : List ByteArray} (h : ss.length < 1 ∨ 8 < ss.length) : namesB (bl ss) = false := by
  unfold namesB
  rw [bl_length]
  rcases h with h | h
  · have : decide (1 ≤ ss.length) = false := by rw [decide_eq_false_iff_not]; omega
    rw [this]; simp
  · have : decide (ss.length ≤ 8) = false := by rw [decide_eq_false_iff_not]; omega
    rw [this]; simp
theorem bytes_of (s : ByteArray) : s = ⟨s.data.toList.toArray⟩ := by cases s; simp

end Go.Proofs.YtfpnjbomlmhlpaaGreat

/- A design in memory; Blocks of structure and of its reference. -/
namespace Go.Proofs.YtfpnjbomlmhlpaaGreat
open Go.RowKit

/-- a slice by its parts -/
structure Sv where
  a : Option Addr
  n : Nat
  c : Nat
structure Des where
  hull : List UInt8
  n : Sv
  p : Sv
  s : Sv
  k : Sv
  e : Sv
def desA (D : Des) : Array Value := #[.string (bs D.hull), .slice D.n.a D.n.n D.n.c, .slice D.p.a D.p.n D.p.c, .slice D.s.a D.s.n D.s.c, .slice D.k.a D.k.n D.k.c, .slice D.e.a D.e.n D.e.c]
/-- nodes and needs of a design -/
structure DesOK (w : World) (D : Des) (ns : List Nod) (es : List Nd) : Prop where
  n : SNo w (.slice D.n.a D.n.n D.n.c) ns
  e : SNn w (.slice D.e.a D.e.n D.e.c) es
theorem DesOK.keep {w w' : World} {D : Des} {ns : List Nod} {es : List Nd} (h : DesOK w D ns es) (hb : Below w.heap.size w w') : DesOK w' D ns es := ⟨h.n.keep hb, h.e.keep hb⟩
structure DesC (w : World) (b : Nat) (D : Des) : Prop where
  c0 : w.cell? ⟨b, 0, none⟩ = some (.string (bs D.hull))
  c1 : w.cell? ⟨b, 1, none⟩ = some (.slice D.n.a D.n.n D.n.c)
  c2 : w.cell? ⟨b, 2, none⟩ = some (.slice D.p.a D.p.n D.p.c)
  c3 : w.cell? ⟨b, 3, none⟩ = some (.slice D.s.a D.s.n D.s.c)
  c4 : w.cell? ⟨b, 4, none⟩ = some (.slice D.k.a D.k.n D.k.c)
  c5 : w.cell? ⟨b, 5, none⟩ = some (.slice D.e.a D.e.n D.e.c)
theorem desC {w : World} {b : Nat} {D : Des} {e : TypeId} (h : ObjAt w b (desA D) e) : DesC w b D := ⟨h.cell 0, h.cell 1, h.cell 2, h.cell 3, h.cell 4, h.cell 5⟩
theorem boxD (w : World) (D : Des) : ∃ W1, Hid (ObjAt W1 w.heap.size (desA D) 28) ∧ Hid (Below w.heap.size w W1) ∧ Hid (w.alloc (.cells #[.string (bs D.hull), .slice D.n.a D.n.n D.n.c, .slice D.p.a D.p.n D.p.c, .slice D.s.a D.s.n D.s.c, .slice D.k.a D.k.n D.k.c, .slice D.e.a D.e.n D.e.c] 28) = W1) ∧ Hid (w.heap.size < W1.heap.size) :=
  ⟨w.alloc (.cells (desA D) 28), ObjAt.new _ _ _, (Below.refl _ _).alloc (Nat.le_refl _) _, rfl, by show _ < _; simp⟩
def noA (x : Nod) : Array Value := #[.string (bs x.id), .int .i64 x.kind, .string (bs x.parent)]
theorem noC {w : World} {b : Nat} {x : Nod} {e : TypeId} (h : ObjAt w b (noA x) e) : NoAt w b 0 x := ⟨h.cell 0, h.cell 1, h.cell 2⟩
theorem copyNo (w : World) (x : Nod) : ∃ W1, Hid (ObjAt W1 w.heap.size (noA x) 107) ∧ Hid (Below w.heap.size w W1) ∧ Hid (w.alloc (.cells #[.string (bs x.id), .int .i64 x.kind, .string (bs x.parent)] 107) = W1) ∧ Hid (w.heap.size < W1.heap.size) :=
  ⟨w.alloc (.cells (noA x) 107), ObjAt.new _ _ _, (Below.refl _ _).alloc (Nat.le_refl _) _, rfl, by show _ < _; simp⟩
def ndA (x : Nd) : Array Value := #[.int .i64 x.kind, .string (bs x.block), .string (bs x.on)]
theorem ndC {w : World} {b : Nat} {x : Nd} {e : TypeId} (h : ObjAt w b (ndA x) e) : NnAt w b 0 x := ⟨h.cell 0, h.cell 1, h.cell 2⟩
theorem copyNd (w : World) (x : Nd) : ∃ W1, Hid (ObjAt W1 w.heap.size (ndA x) 104) ∧ Hid (Below w.heap.size w W1) ∧ Hid (w.alloc (.cells #[.int .i64 x.kind, .string (bs x.block), .string (bs x.on)] 104) = W1) ∧ Hid (w.heap.size < W1.heap.size) :=
  ⟨w.alloc (.cells (ndA x) 104), ObjAt.new _ _ _, (Below.refl _ _).alloc (Nat.le_refl _) _, rfl, by show _ < _; simp⟩
def blocksF (ns : List Nod) : List (List UInt8) := (ns.filter fun x => x.kind == 1).map (·.id)
theorem blocks_snoc (ns : List Nod) (x : Nod) : blocksF (ns ++ [x]) = blocksF ns ++ if (x.kind == 1) = true then [x.id] else [] := by
  unfold blocksF
  rw [List.filter_append, List.map_append]
  congr 1
  rw [List.filter_cons, List.filter_nil]
  split <;> rfl
theorem blocks_le (ns : List Nod) : (blocksF ns).length ≤ ns.length := by
  unfold blocksF; rw [List.length_map]; exact List.length_filter_le _ _
set_option maxRecDepth 100000 in
set_option maxHeartbeats 1000000 in
theorem Blocks_any (D : Des) (ns : List Nod) (w : World) (h : SNo w (.slice D.n.a D.n.n D.n.c) ns) (hl : ns.length ≤ 100000) : Calls Tryz.prog 30 #[.agg (desA D)] w fun e w' => ∃ v, e = .returned v ∧ SZ w' v ((blocksF ns).map bs) ∧ Below w.heap.size w w' := by
  have HDN := Lib.hid h.n
  have H3 := Lib.hid (fun i (hi : i < ns.length) => h.at hi)
  clear h
  obtain ⟨W0, HO0, HB0, HW0, HZ0⟩ := boxD w D
  have hm : ns.length ≤ 9223372036854775807 := by omega
  unfold desA
  go_enter Tryz.func30, Tryz.ntmps30
  go_upto_region 1 with fail
  rw [HW0.out]
  clear HW0
  obtain ⟨c0, c1, c2, c3, c4, c5⟩ := desC HO0.out
  rw [HDN.out] at c1
  go_wp2_with fail
  clear c0 c1 c2 c3 c4 c5
  go_loopw [2, 8] (fun o i wr => ∃ k : Nat, k ≤ ns.length ∧ i = .int .i64 k ∧ Hid (Below w.heap.size w wr) ∧ Hid (OwnZ wr w.heap.size o ((blocksF (ns.take k)).map bs))) (fun _ i _ => ns.length - (intOf i).toNat)
  case atStart => exact ⟨0, Nat.zero_le _, rfl, HB0, OwnZ_nil _ _⟩
  case round =>
    obtain ⟨k, hk, rfl, hb, ho⟩ := hrel
    by_cases hlt : k < ns.length
    · obtain ⟨b, off, ha, hc⟩ := H3.out k hlt
      have HA := Lib.hid ha
      obtain ⟨c0, c1, c2⟩ := hc.keep hb.out
      obtain ⟨W2, HO2, HC2, HW, HZ2⟩ := copyNo wr (noi ns k)
      have HB2 := Lib.hid (ext_trans hb.out HC2.out)
      have HS := Lib.hid (blocks_snoc (ns.take k) (noi ns k))
      rw [← take_noi hlt] at HS
      have HOW := Lib.hid (ho.out.below HC2.out)
      have hbl := blocks_le (ns.take k)
      rw [List.length_take] at hbl
      have HLN : Hid (((blocksF (ns.take k)).map bs).length ≤ 2000000) := by show _ ≤ _; rw [List.length_map]; omega
      clear hc ha hbl
      rw [HA.out]
      go_upto_region 4 with fail
      rw [HW.out]
      clear c0 c1 c2 HW
      obtain ⟨c0, c1, c2⟩ := noC HO2.out
      cases hkd : ((noi ns k).kind == 1)
      · have HS' : Hid (blocksF (ns.take (k + 1)) = blocksF (ns.take k)) := by show _ = _; rw [HS.out, if_neg (by rw [hkd]; decide), List.append_nil]
        have HO3 : Hid (OwnZ W2 w.heap.size u2 ((blocksF (ns.take (k + 1))).map bs)) := by show OwnZ ..; rw [HS'.out]; exact HOW.out
        go_wp2_with fail
        go_roundw
        case rel => exact ⟨k + 1, by omega, by go_num, HB2, HO3⟩
        case measure => simp [intOf]; omega
      · have HS' : Hid (blocksF (ns.take (k + 1)) = blocksF (ns.take k) ++ [(noi ns k).id]) := by show _ = _; rw [HS.out, if_pos hkd]
        have hsw := HB2.out.size
        have hlt' : ∀ g, u2.ownBlock = some g → w.heap.size ≤ g := fun g hg => (World.ownsRow.lt HOW.out g hg).1
        go_wp2_with (at_builtin; refine wpList_app_str rfl (.tmp 15) (.tmp 18) rfl w.heap.size u2 ((blocksF (ns.take k)).map bs) rfl (OwnZ_alloc HOW.out _) W2.heap.size 1 (bs (noi ns k).id) rfl (lit_str _ _) HLN.out (by simp; omega) ?_)
        intro va wa hoa hga _
        have hba : Below w.heap.size w wa := (HB2.out.alloc hsw _).grown hga (by simp; omega) hlt'
        have HO3 : Hid (OwnZ wa w.heap.size va ((blocksF (ns.take (k + 1))).map bs)) := by show OwnZ ..; rw [HS'.out, List.map_append]; exact hoa
        have HBA := Lib.hid hba
        clear hoa hba hga c0 c1 c2
        go_wp2_with fail
        go_roundw
        case rel => exact ⟨k + 1, by omega, by go_num, HBA, HO3⟩
        case measure => simp [intOf]; omega
    · obtain rfl : k = ns.length := by omega
      have HS : Hid (SZ wr u2 ((blocksF ns).map bs)) := by have := ho.out.sl; rw [List.take_length] at this; exact this
      go_wp2_with fail
      go_ret
      exact ⟨_, rfl, HS.out, hb.out⟩
set_option maxRecDepth 100000 in
set_option maxHeartbeats 1000000 in
theorem rBlocks_any (D : Des) (ns : List Nod) (w : World) (h : SNo w (.slice D.n.a D.n.n D.n.c) ns) (hl : ns.length ≤ 100000) : Calls Tryz.prog 23 #[.agg (desA D)] w fun e w' => ∃ v, e = .returned v ∧ SZ w' v ((blocksF ns).map bs) ∧ Below w.heap.size w w' := by
  have HDN := Lib.hid h.n
  have H3 := Lib.hid (fun i (hi : i < ns.length) => h.at hi)
  clear h
  obtain ⟨W0, HO0, HB0, HW0, HZ0⟩ := boxD w D
  have hm : ns.length ≤ 9223372036854775807 := by omega
  unfold desA
  go_enter Tryz.func23, Tryz.ntmps23
  go_upto_region 3 with fail
  rw [HW0.out]
  clear HW0
  go_loopw [3, 4] (fun o i wr => ∃ k : Nat, k ≤ ns.length ∧ i = .int .i64 k ∧ Hid (Below W0.heap.size W0 wr) ∧ Hid (OwnZ wr W0.heap.size o ((blocksF (ns.take k)).map bs))) (fun _ i _ => ns.length - (intOf i).toNat)
  case atStart => exact ⟨0, Nat.zero_le _, rfl, Below.refl _ _, OwnZ_nil _ _⟩
  case round =>
    obtain ⟨k, hk, rfl, hb, ho⟩ := hrel
    obtain ⟨d0, d1, d2, d3, d4, d5⟩ := desC (HO0.out.keep hb.out)
    rw [HDN.out] at d1
    clear d0 d2 d3 d4 d5
    by_cases hlt : k < ns.length
    · obtain ⟨b, off, ha, hc⟩ := H3.out k hlt
      obtain ⟨c0, c1, c2⟩ := hc.keep (ext_trans HB0.out hb.out)
      have HS := Lib.hid (blocks_snoc (ns.take k) (noi ns k))
      rw [← take_noi hlt] at HS
      have hbl := blocks_le (ns.take k)
      rw [List.length_take] at hbl
      have HLN : Hid (((blocksF (ns.take k)).map bs).length ≤ 2000000) := by show _ ≤ _; rw [List.length_map]; omega
      rw [ha] at d1
      clear hc ha hbl
      cases hkd : ((noi ns k).kind == 1)
      · have HS' : Hid (blocksF (ns.take (k + 1)) = blocksF (ns.take k)) := by show _ = _; rw [HS.out, if_neg (by rw [hkd]; decide), List.append_nil]
        have HO3 : Hid (OwnZ wr W0.heap.size u3 ((blocksF (ns.take (k + 1))).map bs)) := by show OwnZ ..; rw [HS'.out]; exact ho.out
        go_wp2_with fail
        go_roundw
        case rel => exact ⟨k + 1, by omega, by go_num, hb, HO3⟩
        case measure => simp [intOf]; omega
      · have HS' : Hid (blocksF (ns.take (k + 1)) = blocksF (ns.take k) ++ [(noi ns k).id]) := by show _ = _; rw [HS.out, if_pos hkd]
        have hsw := hb.out.size
        have hlt' : ∀ g, u3.ownBlock = some g → W0.heap.size ≤ g := fun g hg => (World.ownsRow.lt ho.out g hg).1
        go_wp2_with (at_builtin; refine wpList_app_str rfl (.tmp 19) (.tmp 26) rfl W0.heap.size u3 ((blocksF (ns.take k)).map bs) rfl (OwnZ_alloc ho.out _) wr.heap.size 1 (bs (noi ns k).id) rfl (lit_str _ _) HLN.out (by simp; omega) ?_)
        intro va wa hoa hga _
        have hba : Below W0.heap.size W0 wa := (hb.out.alloc hsw _).grown hga (by simp; omega) hlt'
        have HO3 : Hid (OwnZ wa W0.heap.size va ((blocksF (ns.take (k + 1))).map bs)) := by show OwnZ ..; rw [HS'.out, List.map_append]; exact hoa
        have HBA := Lib.hid hba
        clear hoa hba hga c0 c1 c2 d1
        go_wp2_with fail
        go_roundw
        case rel => exact ⟨k + 1, by omega, by go_num, HBA, HO3⟩
        case measure => simp [intOf]; omega
    · obtain rfl : k = ns.length := by omega
      have HS : Hid (SZ wr u3 ((blocksF ns).map bs)) := by have := ho.out.sl; rw [List.take_length] at this; exact this
      have HBW := Lib.hid (ext_trans HB0.out hb.out)
      go_wp2_with fail
      go_ret
      exact ⟨_, rfl, HS.out, HBW.out⟩
end Go.Proofs.YtfpnjbomlmhlpaaGreat

/- Points, parts, seams, packages, grades, sections in memory (printed by wip/gen_scpmem.py). -/
namespace Go.Proofs.YtfpnjbomlmhlpaaGreat
open Go.RowKit

structure Pnt where
  x : Int
  y : Int
instance : Inhabited Pnt := ⟨⟨0, 0⟩⟩
/-- a part, the slices of its shape, and what they read as -/
structure Prt where
  id : List UInt8
  rev : Int
  kind : Int
  node : List UInt8
  grade : List UInt8
  thick : Int
  ov : Value
  hv : Value
  sect : List UInt8
  length : Int
  mass : Int
  cx : Int
  cy : Int
  cz : Int
  ax : Int
  ay : Int
  az : Int
  turn : Int
  outer : List Pnt
  holes : List (List Pnt)
  hvs : List Value
instance : Inhabited Prt := ⟨⟨[], 0, 0, [], [], 0, .slice none 0 0, .slice none 0 0, [], 0, 0, 0, 0, 0, 0, 0, 0, 0, [], [], []⟩⟩
structure Sea where
  id : List UInt8
  a : List UInt8
  b : List UInt8
  kind : Int
  length : Int
  cls : Int
instance : Inhabited Sea := ⟨⟨[], [], [], 0, 0, 0⟩⟩
structure Pkg where
  id : List UInt8
  block : List UInt8
  pv : Value
  hours : Int
  av : Value
  parts : List (List UInt8)
  aft : List (List UInt8)
instance : Inhabited Pkg := ⟨⟨[], [], .slice none 0 0, 0, .slice none 0 0, [], []⟩⟩
structure Grd where
  name : List UInt8
  dens : Int
  yield_ : Int
  gv : Value
  gauges : List Int
instance : Inhabited Grd := ⟨⟨[], 0, 0, .slice none 0 0, []⟩⟩
structure Sct where
  name : List UInt8
  area : Int
  height : Int
  stock : Int
instance : Inhabited Sct := ⟨⟨[], 0, 0, 0⟩⟩
def pti (l : List Pnt) (k : Nat) : Pnt := l.getD k default
def pri (l : List Prt) (k : Nat) : Prt := l.getD k default
def smi (l : List Sea) (k : Nat) : Sea := l.getD k default
def pki (l : List Pkg) (k : Nat) : Pkg := l.getD k default
def gri (l : List Grd) (k : Nat) : Grd := l.getD k default
def sci (l : List Sct) (k : Nat) : Sct := l.getD k default
/-! Pnt -/
def ptCells (x : Pnt) : List Value := [.int .i64 x.x, .int .i64 x.y]
theorem ptCells_len (x : Pnt) : (ptCells x).length = 2 := rfl
theorem pti_lt {l : List Pnt} {k : Nat} (h : k < l.length) : pti l k = l[k] := by simp [pti, h]
theorem pti_mem {l : List Pnt} {k : Nat} (h : k < l.length) : pti l k ∈ l := by rw [pti_lt h]; exact List.getElem_mem h
theorem mem_pti {l : List Pnt} {x : Pnt} (h : x ∈ l) : ∃ k, k < l.length ∧ pti l k = x := by
  obtain ⟨k, hk, rfl⟩ := List.mem_iff_getElem.1 h; exact ⟨k, hk, pti_lt hk⟩
theorem take_pti {l : List Pnt} {k : Nat} (h : k < l.length) : l.take (k + 1) = l.take k ++ [pti l k] := by
  rw [List.take_succ_eq_append_getElem h, pti_lt h]
theorem pti_take {l : List Pnt} {k n : Nat} (h : k < n) : pti (l.take n) k = pti l k := by
  simp [pti, List.getElem?_take, h]
structure PtAt (w : World) (b off : Nat) (x : Pnt) : Prop where
  c0 : w.cell? ⟨b, off, none⟩ = some (.int .i64 x.x)
  c1 : w.cell? ⟨b, off + 1, none⟩ = some (.int .i64 x.y)
theorem PtAt.keep {w w' : World} {b off : Nat} {x : Pnt} (h : PtAt w b off x) (hb : Below w.heap.size w w') : PtAt w' b off x := ⟨cell_keep hb h.c0, cell_keep hb h.c1⟩
/-- a slice that reads as such a list -/
def SPt (w : World) (v : Value) (l : List Pnt) : Prop :=
  ∃ a cap, v = .slice a l.length cap ∧ l.length ≤ cap ∧ cap ≤ maxLen ∧ ∀ i, i < l.length → ∃ b off, a = some ⟨b, off, none⟩ ∧ PtAt w b (off + i * 2) (pti l i)
theorem SPt.keep {w w' : World} {v : Value} {l : List Pnt} (h : SPt w v l) (hb : Below w.heap.size w w') : SPt w' v l := by
  obtain ⟨a, cap, rfl, h1, h2, h3⟩ := h
  exact ⟨a, cap, rfl, h1, h2, fun i hi => by obtain ⟨b, off, ha, hc⟩ := h3 i hi; exact ⟨b, off, ha, hc.keep hb⟩⟩
theorem SPt.len {w : World} {v : Value} {l : List Pnt} (h : SPt w v l) : l.length ≤ maxLen := by obtain ⟨a, cap, _, h1, h2, _⟩ := h; omega
theorem SPt_nil (w : World) : SPt w (.slice none 0 0) [] := ⟨none, 0, rfl, Nat.le_refl _, Nat.zero_le _, fun i hi => by simp at hi⟩
theorem SPt.form {w : World} {v : Value} {l : List Pnt} (h : SPt w v l) (hl : 1 ≤ l.length) : ∃ b off cap, v = .slice (some ⟨b, off, none⟩) l.length cap ∧ l.length ≤ cap ∧ cap ≤ maxLen ∧ b < w.heap.size ∧ ∀ i, i < l.length → PtAt w b (off + i * 2) (pti l i) := by
  obtain ⟨a, cap, rfl, h1, h2, h3⟩ := h
  obtain ⟨b, off, rfl, hc⟩ := h3 0 (by omega)
  refine ⟨b, off, cap, rfl, h1, h2, World.block_lt_of_cell? w _ hc.c0, fun i hi => ?_⟩
  obtain ⟨b', off', ha, hc'⟩ := h3 i hi
  have ha := Option.some.inj ha
  simp only [Addr.mk.injEq] at ha
  obtain ⟨rfl, rfl, _⟩ := ha
  exact hc'
theorem SPt.take {w : World} {a : Option Addr} {n cap : Nat} {l : List Pnt} (h : SPt w (.slice a n cap) l) (k : Nat) (hk : k ≤ l.length) : SPt w (.slice a k cap) (l.take k) := by
  obtain ⟨a', cap', he, h1, h2, h3⟩ := h
  simp at he
  obtain ⟨rfl, rfl, rfl⟩ := he
  have hl : (l.take k).length = k := by simp; omega
  refine ⟨a, cap, by rw [hl], by omega, h2, fun i hi => ?_⟩
  rw [hl] at hi
  obtain ⟨b, off, ha, hc⟩ := h3 i (by omega)
  exact ⟨b, off, ha, by rw [pti_take hi]; exact hc⟩
theorem SPt.at {w : World} {a : Option Addr} {n cap : Nat} {l : List Pnt} (h : SPt w (.slice a n cap) l) {i : Nat} (hi : i < l.length) : ∃ b off, a = some ⟨b, off, none⟩ ∧ PtAt w b (off + i * 2) (pti l i) := by
  obtain ⟨a', cap', he, h1, h2, h3⟩ := h
  simp at he
  obtain ⟨rfl, rfl, rfl⟩ := he
  exact h3 i hi
theorem SPt.n {w : World} {a : Option Addr} {n cap : Nat} {l : List Pnt} (h : SPt w (.slice a n cap) l) : n = l.length := by
  obtain ⟨a', cap', he, _⟩ := h
  simp at he
  exact he.2.1

theorem pt_range {w : World} {b off : Nat} {x : Pnt} (h : PtAt w b off x) : w.rangeAt b off (ptCells x) := fun j v hv => by
  match j, hv with
  | 0, hv => cases hv; exact h.c0
  | 1, hv => cases hv; exact h.c1
def ptA (x : Pnt) : Array Value := #[.int .i64 x.x, .int .i64 x.y]
theorem ptC {w : World} {b : Nat} {x : Pnt} {e : TypeId} (h : ObjAt w b (ptA x) e) : PtAt w b 0 x := ⟨h.cell 0, h.cell 1⟩
theorem copyPt (w : World) (x : Pnt) : ∃ W1, Hid (ObjAt W1 w.heap.size (ptA x) 183) ∧ Hid (Below w.heap.size w W1) ∧ Hid (w.alloc (.cells #[.int .i64 x.x, .int .i64 x.y] 183) = W1) ∧ Hid (w.heap.size < W1.heap.size) :=
  ⟨w.alloc (.cells (ptA x) 183), ObjAt.new _ _ _, (Below.refl _ _).alloc (Nat.le_refl _) _, rfl, by show _ < _; simp⟩
/-! Prt -/
def prCells (x : Prt) : List Value := [.string (bs x.id), .int .i64 x.rev, .int .i64 x.kind, .string (bs x.node), .string (bs x.grade), .int .i64 x.thick, x.ov, x.hv, .string (bs x.sect), .int .i64 x.length, .int .i64 x.mass, .int .i64 x.cx, .int .i64 x.cy, .int .i64 x.cz, .int .i64 x.ax, .int .i64 x.ay, .int .i64 x.az, .int .i64 x.turn]
theorem prCells_len (x : Prt) : (prCells x).length = 18 := rfl
theorem pri_lt {l : List Prt} {k : Nat} (h : k < l.length) : pri l k = l[k] := by simp [pri, h]
theorem pri_mem {l : List Prt} {k : Nat} (h : k < l.length) : pri l k ∈ l := by rw [pri_lt h]; exact List.getElem_mem h
theorem mem_pri {l : List Prt} {x : Prt} (h : x ∈ l) : ∃ k, k < l.length ∧ pri l k = x := by
  obtain ⟨k, hk, rfl⟩ := List.mem_iff_getElem.1 h; exact ⟨k, hk, pri_lt hk⟩
theorem take_pri {l : List Prt} {k : Nat} (h : k < l.length) : l.take (k + 1) = l.take k ++ [pri l k] := by
  rw [List.take_succ_eq_append_getElem h, pri_lt h]
theorem pri_take {l : List Prt} {k n : Nat} (h : k < n) : pri (l.take n) k = pri l k := by
  simp [pri, List.getElem?_take, h]
structure PrAt (w : World) (b off : Nat) (x : Prt) : Prop where
  c0 : w.cell? ⟨b, off, none⟩ = some (.string (bs x.id))
  c1 : w.cell? ⟨b, off + 1, none⟩ = some (.int .i64 x.rev)
  c2 : w.cell? ⟨b, off + 2, none⟩ = some (.int .i64 x.kind)
  c3 : w.cell? ⟨b, off + 3, none⟩ = some (.string (bs x.node))
  c4 : w.cell? ⟨b, off + 4, none⟩ = some (.string (bs x.grade))
  c5 : w.cell? ⟨b, off + 5, none⟩ = some (.int .i64 x.thick)
  c6 : w.cell? ⟨b, off + 6, none⟩ = some (x.ov)
  c7 : w.cell? ⟨b, off + 7, none⟩ = some (x.hv)
  c8 : w.cell? ⟨b, off + 8, none⟩ = some (.string (bs x.sect))
  c9 : w.cell? ⟨b, off + 9, none⟩ = some (.int .i64 x.length)
  c10 : w.cell? ⟨b, off + 10, none⟩ = some (.int .i64 x.mass)
  c11 : w.cell? ⟨b, off + 11, none⟩ = some (.int .i64 x.cx)
  c12 : w.cell? ⟨b, off + 12, none⟩ = some (.int .i64 x.cy)
  c13 : w.cell? ⟨b, off + 13, none⟩ = some (.int .i64 x.cz)
  c14 : w.cell? ⟨b, off + 14, none⟩ = some (.int .i64 x.ax)
  c15 : w.cell? ⟨b, off + 15, none⟩ = some (.int .i64 x.ay)
  c16 : w.cell? ⟨b, off + 16, none⟩ = some (.int .i64 x.az)
  c17 : w.cell? ⟨b, off + 17, none⟩ = some (.int .i64 x.turn)
theorem PrAt.keep {w w' : World} {b off : Nat} {x : Prt} (h : PrAt w b off x) (hb : Below w.heap.size w w') : PrAt w' b off x := ⟨cell_keep hb h.c0, cell_keep hb h.c1, cell_keep hb h.c2, cell_keep hb h.c3, cell_keep hb h.c4, cell_keep hb h.c5, cell_keep hb h.c6, cell_keep hb h.c7, cell_keep hb h.c8, cell_keep hb h.c9, cell_keep hb h.c10, cell_keep hb h.c11, cell_keep hb h.c12, cell_keep hb h.c13, cell_keep hb h.c14, cell_keep hb h.c15, cell_keep hb h.c16, cell_keep hb h.c17⟩
/-- a slice that reads as such a list -/
def SPr (w : World) (v : Value) (l : List Prt) : Prop :=
  ∃ a cap, v = .slice a l.length cap ∧ l.length ≤ cap ∧ cap ≤ maxLen ∧ ∀ i, i < l.length → ∃ b off, a = some ⟨b, off, none⟩ ∧ PrAt w b (off + i * 18) (pri l i)
theorem SPr.keep {w w' : World} {v : Value} {l : List Prt} (h : SPr w v l) (hb : Below w.heap.size w w') : SPr w' v l := by
  obtain ⟨a, cap, rfl, h1, h2, h3⟩ := h
  exact ⟨a, cap, rfl, h1, h2, fun i hi => by obtain ⟨b, off, ha, hc⟩ := h3 i hi; exact ⟨b, off, ha, hc.keep hb⟩⟩
theorem SPr.len {w : World} {v : Value} {l : List Prt} (h : SPr w v l) : l.length ≤ maxLen := by obtain ⟨a, cap, _, h1, h2, _⟩ := h; omega
theorem SPr_nil (w : World) : SPr w (.slice none 0 0) [] := ⟨none, 0, rfl, Nat.le_refl _, Nat.zero_le _, fun i hi => by simp at hi⟩
theorem SPr.form {w : World} {v : Value} {l : List Prt} (h : SPr w v l) (hl : 1 ≤ l.length) : ∃ b off cap, v = .slice (some ⟨b, off, none⟩) l.length cap ∧ l.length ≤ cap ∧ cap ≤ maxLen ∧ b < w.heap.size ∧ ∀ i, i < l.length → PrAt w b (off + i * 18) (pri l i) := by
  obtain ⟨a, cap, rfl, h1, h2, h3⟩ := h
  obtain ⟨b, off, rfl, hc⟩ := h3 0 (by omega)
  refine ⟨b, off, cap, rfl, h1, h2, World.block_lt_of_cell? w _ hc.c0, fun i hi => ?_⟩
  obtain ⟨b', off', ha, hc'⟩ := h3 i hi
  have ha := Option.some.inj ha
  simp only [Addr.mk.injEq] at ha
  obtain ⟨rfl, rfl, _⟩ := ha
  exact hc'
theorem SPr.take {w : World} {a : Option Addr} {n cap : Nat} {l : List Prt} (h : SPr w (.slice a n cap) l) (k : Nat) (hk : k ≤ l.length) : SPr w (.slice a k cap) (l.take k) := by
  obtain ⟨a', cap', he, h1, h2, h3⟩ := h
  simp at he
  obtain ⟨rfl, rfl, rfl⟩ := he
  have hl : (l.take k).length = k := by simp; omega
  refine ⟨a, cap, by rw [hl], by omega, h2, fun i hi => ?_⟩
  rw [hl] at hi
  obtain ⟨b, off, ha, hc⟩ := h3 i (by omega)
  exact ⟨b, off, ha, by rw [pri_take hi]; exact hc⟩
theorem SPr.at {w : World} {a : Option Addr} {n cap : Nat} {l : List Prt} (h : SPr w (.slice a n cap) l) {i : Nat} (hi : i < l.length) : ∃ b off, a = some ⟨b, off, none⟩ ∧ PrAt w b (off + i * 18) (pri l i) := by
  obtain ⟨a', cap', he, h1, h2, h3⟩ := h
  simp at he
  obtain ⟨rfl, rfl, rfl⟩ := he
  exact h3 i hi
theorem SPr.n {w : World} {a : Option Addr} {n cap : Nat} {l : List Prt} (h : SPr w (.slice a n cap) l) : n = l.length := by
  obtain ⟨a', cap', he, _⟩ := h
  simp at he
  exact he.2.1

theorem pr_range {w : World} {b off : Nat} {x : Prt} (h : PrAt w b off x) : w.rangeAt b off (prCells x) := fun j v hv => by
  match j, hv with
  | 0, hv => cases hv; exact h.c0
  | 1, hv => cases hv; exact h.c1
  | 2, hv => cases hv; exact h.c2
  | 3, hv => cases hv; exact h.c3
  | 4, hv => cases hv; exact h.c4
  | 5, hv => cases hv; exact h.c5
  | 6, hv => cases hv; exact h.c6
  | 7, hv => cases hv; exact h.c7
  | 8, hv => cases hv; exact h.c8
  | 9, hv => cases hv; exact h.c9
  | 10, hv => cases hv; exact h.c10
  | 11, hv => cases hv; exact h.c11
  | 12, hv => cases hv; exact h.c12
  | 13, hv => cases hv; exact h.c13
  | 14, hv => cases hv; exact h.c14
  | 15, hv => cases hv; exact h.c15
  | 16, hv => cases hv; exact h.c16
  | 17, hv => cases hv; exact h.c17
def prA (x : Prt) : Array Value := #[.string (bs x.id), .int .i64 x.rev, .int .i64 x.kind, .string (bs x.node), .string (bs x.grade), .int .i64 x.thick, x.ov, x.hv, .string (bs x.sect), .int .i64 x.length, .int .i64 x.mass, .int .i64 x.cx, .int .i64 x.cy, .int .i64 x.cz, .int .i64 x.ax, .int .i64 x.ay, .int .i64 x.az, .int .i64 x.turn]
theorem prC {w : World} {b : Nat} {x : Prt} {e : TypeId} (h : ObjAt w b (prA x) e) : PrAt w b 0 x := ⟨h.cell 0, h.cell 1, h.cell 2, h.cell 3, h.cell 4, h.cell 5, h.cell 6, h.cell 7, h.cell 8, h.cell 9, h.cell 10, h.cell 11, h.cell 12, h.cell 13, h.cell 14, h.cell 15, h.cell 16, h.cell 17⟩
/-! Sea -/
def smCells (x : Sea) : List Value := [.string (bs x.id), .string (bs x.a), .string (bs x.b), .int .i64 x.kind, .int .i64 x.length, .int .i64 x.cls]
theorem smCells_len (x : Sea) : (smCells x).length = 6 := rfl
theorem smi_lt {l : List Sea} {k : Nat} (h : k < l.length) : smi l k = l[k] := by simp [smi, h]
theorem smi_mem {l : List Sea} {k : Nat} (h : k < l.length) : smi l k ∈ l := by rw [smi_lt h]; exact List.getElem_mem h
theorem mem_smi {l : List Sea} {x : Sea} (h : x ∈ l) : ∃ k, k < l.length ∧ smi l k = x := by
  obtain ⟨k, hk, rfl⟩ := List.mem_iff_getElem.1 h; exact ⟨k, hk, smi_lt hk⟩
theorem take_smi {l : List Sea} {k : Nat} (h : k < l.length) : l.take (k + 1) = l.take k ++ [smi l k] := by
  rw [List.take_succ_eq_append_getElem h, smi_lt h]
theorem smi_take {l : List Sea} {k n : Nat} (h : k < n) : smi (l.take n) k = smi l k := by
  simp [smi, List.getElem?_take, h]
structure SmAt (w : World) (b off : Nat) (x : Sea) : Prop where
  c0 : w.cell? ⟨b, off, none⟩ = some (.string (bs x.id))
  c1 : w.cell? ⟨b, off + 1, none⟩ = some (.string (bs x.a))
  c2 : w.cell? ⟨b, off + 2, none⟩ = some (.string (bs x.b))
  c3 : w.cell? ⟨b, off + 3, none⟩ = some (.int .i64 x.kind)
  c4 : w.cell? ⟨b, off + 4, none⟩ = some (.int .i64 x.length)
  c5 : w.cell? ⟨b, off + 5, none⟩ = some (.int .i64 x.cls)
theorem SmAt.keep {w w' : World} {b off : Nat} {x : Sea} (h : SmAt w b off x) (hb : Below w.heap.size w w') : SmAt w' b off x := ⟨cell_keep hb h.c0, cell_keep hb h.c1, cell_keep hb h.c2, cell_keep hb h.c3, cell_keep hb h.c4, cell_keep hb h.c5⟩
/-- a slice that reads as such a list -/
def SSm (w : World) (v : Value) (l : List Sea) : Prop :=
  ∃ a cap, v = .slice a l.length cap ∧ l.length ≤ cap ∧ cap ≤ maxLen ∧ ∀ i, i < l.length → ∃ b off, a = some ⟨b, off, none⟩ ∧ SmAt w b (off + i * 6) (smi l i)
theorem SSm.keep {w w' : World} {v : Value} {l : List Sea} (h : SSm w v l) (hb : Below w.heap.size w w') : SSm w' v l := by
  obtain ⟨a, cap, rfl, h1, h2, h3⟩ := h
  exact ⟨a, cap, rfl, h1, h2, fun i hi => by obtain ⟨b, off, ha, hc⟩ := h3 i hi; exact ⟨b, off, ha, hc.keep hb⟩⟩
theorem SSm.len {w : World} {v : Value} {l : List Sea} (h : SSm w v l) : l.length ≤ maxLen := by obtain ⟨a, cap, _, h1, h2, _⟩ := h; omega
theorem SSm_nil (w : World) : SSm w (.slice none 0 0) [] := ⟨none, 0, rfl, Nat.le_refl _, Nat.zero_le _, fun i hi => by simp at hi⟩
theorem SSm.form {w : World} {v : Value} {l : List Sea} (h : SSm w v l) (hl : 1 ≤ l.length) : ∃ b off cap, v = .slice (some ⟨b, off, none⟩) l.length cap ∧ l.length ≤ cap ∧ cap ≤ maxLen ∧ b < w.heap.size ∧ ∀ i, i < l.length → SmAt w b (off + i * 6) (smi l i) := by
  obtain ⟨a, cap, rfl, h1, h2, h3⟩ := h
  obtain ⟨b, off, rfl, hc⟩ := h3 0 (by omega)
  refine ⟨b, off, cap, rfl, h1, h2, World.block_lt_of_cell? w _ hc.c0, fun i hi => ?_⟩
  obtain ⟨b', off', ha, hc'⟩ := h3 i hi
  have ha := Option.some.inj ha
  simp only [Addr.mk.injEq] at ha
  obtain ⟨rfl, rfl, _⟩ := ha
  exact hc'
theorem SSm.take {w : World} {a : Option Addr} {n cap : Nat} {l : List Sea} (h : SSm w (.slice a n cap) l) (k : Nat) (hk : k ≤ l.length) : SSm w (.slice a k cap) (l.take k) := by
  obtain ⟨a', cap', he, h1, h2, h3⟩ := h
  simp at he
  obtain ⟨rfl, rfl, rfl⟩ := he
  have hl : (l.take k).length = k := by simp; omega
  refine ⟨a, cap, by rw [hl], by omega, h2, fun i hi => ?_⟩
  rw [hl] at hi
  obtain ⟨b, off, ha, hc⟩ := h3 i (by omega)
  exact ⟨b, off, ha, by rw [smi_take hi]; exact hc⟩
theorem SSm.at {w : World} {a : Option Addr} {n cap : Nat} {l : List Sea} (h : SSm w (.slice a n cap) l) {i : Nat} (hi : i < l.length) : ∃ b off, a = some ⟨b, off, none⟩ ∧ SmAt w b (off + i * 6) (smi l i) := by
  obtain ⟨a', cap', he, h1, h2, h3⟩ := h
  simp at he
  obtain ⟨rfl, rfl, rfl⟩ := he
  exact h3 i hi
theorem SSm.n {w : World} {a : Option Addr} {n cap : Nat} {l : List Sea} (h : SSm w (.slice a n cap) l) : n = l.length := by
  obtain ⟨a', cap', he, _⟩ := h
  simp at he
  exact he.2.1

theorem sm_range {w : World} {b off : Nat} {x : Sea} (h : SmAt w b off x) : w.rangeAt b off (smCells x) := fun j v hv => by
  match j, hv with
  | 0, hv => cases hv; exact h.c0
  | 1, hv => cases hv; exact h.c1
  | 2, hv => cases hv; exact h.c2
  | 3, hv => cases hv; exact h.c3
  | 4, hv => cases hv; exact h.c4
  | 5, hv => cases hv; exact h.c5
def smA (x : Sea) : Array Value := #[.string (bs x.id), .string (bs x.a), .string (bs x.b), .int .i64 x.kind, .int .i64 x.length, .int .i64 x.cls]
theorem smC {w : World} {b : Nat} {x : Sea} {e : TypeId} (h : ObjAt w b (smA x) e) : SmAt w b 0 x := ⟨h.cell 0, h.cell 1, h.cell 2, h.cell 3, h.cell 4, h.cell 5⟩
theorem copySm (w : World) (x : Sea) : ∃ W1, Hid (ObjAt W1 w.heap.size (smA x) 127) ∧ Hid (Below w.heap.size w W1) ∧ Hid (w.alloc (.cells #[.string (bs x.id), .string (bs x.a), .string (bs x.b), .int .i64 x.kind, .int .i64 x.length, .int .i64 x.cls] 127) = W1) ∧ Hid (w.heap.size < W1.heap.size) :=
  ⟨w.alloc (.cells (smA x) 127), ObjAt.new _ _ _, (Below.refl _ _).alloc (Nat.le_refl _) _, rfl, by show _ < _; simp⟩
/-! Pkg -/
def pkCells (x : Pkg) : List Value := [.string (bs x.id), .string (bs x.block), x.pv, .int .i64 x.hours, x.av]
theorem pkCells_len (x : Pkg) : (pkCells x).length = 5 := rfl
theorem pki_lt {l : List Pkg} {k : Nat} (h : k < l.length) : pki l k = l[k] := by simp [pki, h]
theorem pki_mem {l : List Pkg} {k : Nat} (h : k < l.length) : pki l k ∈ l := by rw [pki_lt h]; exact List.getElem_mem h
theorem mem_pki {l : List Pkg} {x : Pkg} (h : x ∈ l) : ∃ k, k < l.length ∧ pki l k = x := by
  obtain ⟨k, hk, rfl⟩ := List.mem_iff_getElem.1 h; exact ⟨k, hk, pki_lt hk⟩
theorem take_pki {l : List Pkg} {k : Nat} (h : k < l.length) : l.take (k + 1) = l.take k ++ [pki l k] := by
  rw [List.take_succ_eq_append_getElem h, pki_lt h]
theorem pki_take {l : List Pkg} {k n : Nat} (h : k < n) : pki (l.take n) k = pki l k := by
  simp [pki, List.getElem?_take, h]
structure PkAt (w : World) (b off : Nat) (x : Pkg) : Prop where
  c0 : w.cell? ⟨b, off, none⟩ = some (.string (bs x.id))
  c1 : w.cell? ⟨b, off + 1, none⟩ = some (.string (bs x.block))
  c2 : w.cell? ⟨b, off + 2, none⟩ = some (x.pv)
  c3 : w.cell? ⟨b, off + 3, none⟩ = some (.int .i64 x.hours)
  c4 : w.cell? ⟨b, off + 4, none⟩ = some (x.av)
theorem PkAt.keep {w w' : World} {b off : Nat} {x : Pkg} (h : PkAt w b off x) (hb : Below w.heap.size w w') : PkAt w' b off x := ⟨cell_keep hb h.c0, cell_keep hb h.c1, cell_keep hb h.c2, cell_keep hb h.c3, cell_keep hb h.c4⟩
/-- a slice that reads as such a list -/
def SPk (w : World) (v : Value) (l : List Pkg) : Prop :=
  ∃ a cap, v = .slice a l.length cap ∧ l.length ≤ cap ∧ cap ≤ maxLen ∧ ∀ i, i < l.length → ∃ b off, a = some ⟨b, off, none⟩ ∧ PkAt w b (off + i * 5) (pki l i)
theorem SPk.keep {w w' : World} {v : Value} {l : List Pkg} (h : SPk w v l) (hb : Below w.heap.size w w') : SPk w' v l := by
  obtain ⟨a, cap, rfl, h1, h2, h3⟩ := h
  exact ⟨a, cap, rfl, h1, h2, fun i hi => by obtain ⟨b, off, ha, hc⟩ := h3 i hi; exact ⟨b, off, ha, hc.keep hb⟩⟩
theorem SPk.len {w : World} {v : Value} {l : List Pkg} (h : SPk w v l) : l.length ≤ maxLen := by obtain ⟨a, cap, _, h1, h2, _⟩ := h; omega
theorem SPk_nil (w : World) : SPk w (.slice none 0 0) [] := ⟨none, 0, rfl, Nat.le_refl _, Nat.zero_le _, fun i hi => by simp at hi⟩
theorem SPk.form {w : World} {v : Value} {l : List Pkg} (h : SPk w v l) (hl : 1 ≤ l.length) : ∃ b off cap, v = .slice (some ⟨b, off, none⟩) l.length cap ∧ l.length ≤ cap ∧ cap ≤ maxLen ∧ b < w.heap.size ∧ ∀ i, i < l.length → PkAt w b (off + i * 5) (pki l i) := by
  obtain ⟨a, cap, rfl, h1, h2, h3⟩ := h
  obtain ⟨b, off, rfl, hc⟩ := h3 0 (by omega)
  refine ⟨b, off, cap, rfl, h1, h2, World.block_lt_of_cell? w _ hc.c0, fun i hi => ?_⟩
  obtain ⟨b', off', ha, hc'⟩ := h3 i hi
  have ha := Option.some.inj ha
  simp only [Addr.mk.injEq] at ha
  obtain ⟨rfl, rfl, _⟩ := ha
  exact hc'
theorem SPk.take {w : World} {a : Option Addr} {n cap : Nat} {l : List Pkg} (h : SPk w (.slice a n cap) l) (k : Nat) (hk : k ≤ l.length) : SPk w (.slice a k cap) (l.take k) := by
  obtain ⟨a', cap', he, h1, h2, h3⟩ := h
  simp at he
  obtain ⟨rfl, rfl, rfl⟩ := he
  have hl : (l.take k).length = k := by simp; omega
  refine ⟨a, cap, by rw [hl], by omega, h2, fun i hi => ?_⟩
  rw [hl] at hi
  obtain ⟨b, off, ha, hc⟩ := h3 i (by omega)
  exact ⟨b, off, ha, by rw [pki_take hi]; exact hc⟩
theorem SPk.at {w : World} {a : Option Addr} {n cap : Nat} {l : List Pkg} (h : SPk w (.slice a n cap) l) {i : Nat} (hi : i < l.length) : ∃ b off, a = some ⟨b, off, none⟩ ∧ PkAt w b (off + i * 5) (pki l i) := by
  obtain ⟨a', cap', he, h1, h2, h3⟩ := h
  simp at he
  obtain ⟨rfl, rfl, rfl⟩ := he
  exact h3 i hi
theorem SPk.n {w : World} {a : Option Addr} {n cap : Nat} {l : List Pkg} (h : SPk w (.slice a n cap) l) : n = l.length := by
  obtain ⟨a', cap', he, _⟩ := h
  simp at he
  exact he.2.1

theorem pk_range {w : World} {b off : Nat} {x : Pkg} (h : PkAt w b off x) : w.rangeAt b off (pkCells x) := fun j v hv => by
  match j, hv with
  | 0, hv => cases hv; exact h.c0
  | 1, hv => cases hv; exact h.c1
  | 2, hv => cases hv; exact h.c2
  | 3, hv => cases hv; exact h.c3
  | 4, hv => cases hv; exact h.c4
def pkA (x : Pkg) : Array Value := #[.string (bs x.id), .string (bs x.block), x.pv, .int .i64 x.hours, x.av]
theorem pkC {w : World} {b : Nat} {x : Pkg} {e : TypeId} (h : ObjAt w b (pkA x) e) : PkAt w b 0 x := ⟨h.cell 0, h.cell 1, h.cell 2, h.cell 3, h.cell 4⟩
/-! Grd -/
def grCells (x : Grd) : List Value := [.string (bs x.name), .int .i64 x.dens, .int .i64 x.yield_, x.gv]
theorem grCells_len (x : Grd) : (grCells x).length = 4 := rfl
theorem gri_lt {l : List Grd} {k : Nat} (h : k < l.length) : gri l k = l[k] := by simp [gri, h]
theorem gri_mem {l : List Grd} {k : Nat} (h : k < l.length) : gri l k ∈ l := by rw [gri_lt h]; exact List.getElem_mem h
theorem mem_gri {l : List Grd} {x : Grd} (h : x ∈ l) : ∃ k, k < l.length ∧ gri l k = x := by
  obtain ⟨k, hk, rfl⟩ := List.mem_iff_getElem.1 h; exact ⟨k, hk, gri_lt hk⟩
theorem take_gri {l : List Grd} {k : Nat} (h : k < l.length) : l.take (k + 1) = l.take k ++ [gri l k] := by
  rw [List.take_succ_eq_append_getElem h, gri_lt h]
theorem gri_take {l : List Grd} {k n : Nat} (h : k < n) : gri (l.take n) k = gri l k := by
  simp [gri, List.getElem?_take, h]
structure GrAt (w : World) (b off : Nat) (x : Grd) : Prop where
  c0 : w.cell? ⟨b, off, none⟩ = some (.string (bs x.name))
  c1 : w.cell? ⟨b, off + 1, none⟩ = some (.int .i64 x.dens)
  c2 : w.cell? ⟨b, off + 2, none⟩ = some (.int .i64 x.yield_)
  c3 : w.cell? ⟨b, off + 3, none⟩ = some (x.gv)
theorem GrAt.keep {w w' : World} {b off : Nat} {x : Grd} (h : GrAt w b off x) (hb : Below w.heap.size w w') : GrAt w' b off x := ⟨cell_keep hb h.c0, cell_keep hb h.c1, cell_keep hb h.c2, cell_keep hb h.c3⟩
/-- a slice that reads as such a list -/
def SGr (w : World) (v : Value) (l : List Grd) : Prop :=
  ∃ a cap, v = .slice a l.length cap ∧ l.length ≤ cap ∧ cap ≤ maxLen ∧ ∀ i, i < l.length → ∃ b off, a = some ⟨b, off, none⟩ ∧ GrAt w b (off + i * 4) (gri l i)
theorem SGr.keep {w w' : World} {v : Value} {l : List Grd} (h : SGr w v l) (hb : Below w.heap.size w w') : SGr w' v l := by
  obtain ⟨a, cap, rfl, h1, h2, h3⟩ := h
  exact ⟨a, cap, rfl, h1, h2, fun i hi => by obtain ⟨b, off, ha, hc⟩ := h3 i hi; exact ⟨b, off, ha, hc.keep hb⟩⟩
theorem SGr.len {w : World} {v : Value} {l : List Grd} (h : SGr w v l) : l.length ≤ maxLen := by obtain ⟨a, cap, _, h1, h2, _⟩ := h; omega
theorem SGr_nil (w : World) : SGr w (.slice none 0 0) [] := ⟨none, 0, rfl, Nat.le_refl _, Nat.zero_le _, fun i hi => by simp at hi⟩
theorem SGr.form {w : World} {v : Value} {l : List Grd} (h : SGr w v l) (hl : 1 ≤ l.length) : ∃ b off cap, v = .slice (some ⟨b, off, none⟩) l.length cap ∧ l.length ≤ cap ∧ cap ≤ maxLen ∧ b < w.heap.size ∧ ∀ i, i < l.length → GrAt w b (off + i * 4) (gri l i) := by
  obtain ⟨a, cap, rfl, h1, h2, h3⟩ := h
  obtain ⟨b, off, rfl, hc⟩ := h3 0 (by omega)
  refine ⟨b, off, cap, rfl, h1, h2, World.block_lt_of_cell? w _ hc.c0, fun i hi => ?_⟩
  obtain ⟨b', off', ha, hc'⟩ := h3 i hi
  have ha := Option.some.inj ha
  simp only [Addr.mk.injEq] at ha
  obtain ⟨rfl, rfl, _⟩ := ha
  exact hc'
theorem SGr.take {w : World} {a : Option Addr} {n cap : Nat} {l : List Grd} (h : SGr w (.slice a n cap) l) (k : Nat) (hk : k ≤ l.length) : SGr w (.slice a k cap) (l.take k) := by
  obtain ⟨a', cap', he, h1, h2, h3⟩ := h
  simp at he
  obtain ⟨rfl, rfl, rfl⟩ := he
  have hl : (l.take k).length = k := by simp; omega
  refine ⟨a, cap, by rw [hl], by omega, h2, fun i hi => ?_⟩
  rw [hl] at hi
  obtain ⟨b, off, ha, hc⟩ := h3 i (by omega)
  exact ⟨b, off, ha, by rw [gri_take hi]; exact hc⟩
theorem SGr.at {w : World} {a : Option Addr} {n cap : Nat} {l : List Grd} (h : SGr w (.slice a n cap) l) {i : Nat} (hi : i < l.length) : ∃ b off, a = some ⟨b, off, none⟩ ∧ GrAt w b (off + i * 4) (gri l i) := by
  obtain ⟨a', cap', he, h1, h2, h3⟩ := h
  simp at he
  obtain ⟨rfl, rfl, rfl⟩ := he
  exact h3 i hi
theorem SGr.n {w : World} {a : Option Addr} {n cap : Nat} {l : List Grd} (h : SGr w (.slice a n cap) l) : n = l.length := by
  obtain ⟨a', cap', he, _⟩ := h
  simp at he
  exact he.2.1

theorem gr_range {w : World} {b off : Nat} {x : Grd} (h : GrAt w b off x) : w.rangeAt b off (grCells x) := fun j v hv => by
  match j, hv with
  | 0, hv => cases hv; exact h.c0
  | 1, hv => cases hv; exact h.c1
  | 2, hv => cases hv; exact h.c2
  | 3, hv => cases hv; exact h.c3
def grA (x : Grd) : Array Value := #[.string (bs x.name), .int .i64 x.dens, .int .i64 x.yield_, x.gv]
theorem grC {w : World} {b : Nat} {x : Grd} {e : TypeId} (h : ObjAt w b (grA x) e) : GrAt w b 0 x := ⟨h.cell 0, h.cell 1, h.cell 2, h.cell 3⟩
/-! Sct -/
def scCells (x : Sct) : List Value := [.string (bs x.name), .int .i64 x.area, .int .i64 x.height, .int .i64 x.stock]
theorem scCells_len (x : Sct) : (scCells x).length = 4 := rfl
theorem sci_lt {l : List Sct} {k : Nat} (h : k < l.length) : sci l k = l[k] := by simp [sci, h]
theorem sci_mem {l : List Sct} {k : Nat} (h : k < l.length) : sci l k ∈ l := by rw [sci_lt h]; exact List.getElem_mem h
theorem mem_sci {l : List Sct} {x : Sct} (h : x ∈ l) : ∃ k, k < l.length ∧ sci l k = x := by
  obtain ⟨k, hk, rfl⟩ := List.mem_iff_getElem.1 h; exact ⟨k, hk, sci_lt hk⟩
theorem take_sci {l : List Sct} {k : Nat} (h : k < l.length) : l.take (k + 1) = l.take k ++ [sci l k] := by
  rw [List.take_succ_eq_append_getElem h, sci_lt h]
theorem sci_take {l : List Sct} {k n : Nat} (h : k < n) : sci (l.take n) k = sci l k := by
  simp [sci, List.getElem?_take, h]
structure ScAt (w : World) (b off : Nat) (x : Sct) : Prop where
  c0 : w.cell? ⟨b, off, none⟩ = some (.string (bs x.name))
  c1 : w.cell? ⟨b, off + 1, none⟩ = some (.int .i64 x.area)
  c2 : w.cell? ⟨b, off + 2, none⟩ = some (.int .i64 x.height)
  c3 : w.cell? ⟨b, off + 3, none⟩ = some (.int .i64 x.stock)
theorem ScAt.keep {w w' : World} {b off : Nat} {x : Sct} (h : ScAt w b off x) (hb : Below w.heap.size w w') : ScAt w' b off x := ⟨cell_keep hb h.c0, cell_keep hb h.c1, cell_keep hb h.c2, cell_keep hb h.c3⟩
/-- a slice that reads as such a list -/
def SSc (w : World) (v : Value) (l : List Sct) : Prop :=
  ∃ a cap, v = .slice a l.length cap ∧ l.length ≤ cap ∧ cap ≤ maxLen ∧ ∀ i, i < l.length → ∃ b off, a = some ⟨b, off, none⟩ ∧ ScAt w b (off + i * 4) (sci l i)
theorem SSc.keep {w w' : World} {v : Value} {l : List Sct} (h : SSc w v l) (hb : Below w.heap.size w w') : SSc w' v l := by
  obtain ⟨a, cap, rfl, h1, h2, h3⟩ := h
  exact ⟨a, cap, rfl, h1, h2, fun i hi => by obtain ⟨b, off, ha, hc⟩ := h3 i hi; exact ⟨b, off, ha, hc.keep hb⟩⟩
theorem SSc.len {w : World} {v : Value} {l : List Sct} (h : SSc w v l) : l.length ≤ maxLen := by obtain ⟨a, cap, _, h1, h2, _⟩ := h; omega
theorem SSc_nil (w : World) : SSc w (.slice none 0 0) [] := ⟨none, 0, rfl, Nat.le_refl _, Nat.zero_le _, fun i hi => by simp at hi⟩
theorem SSc.form {w : World} {v : Value} {l : List Sct} (h : SSc w v l) (hl : 1 ≤ l.length) : ∃ b off cap, v = .slice (some ⟨b, off, none⟩) l.length cap ∧ l.length ≤ cap ∧ cap ≤ maxLen ∧ b < w.heap.size ∧ ∀ i, i < l.length → ScAt w b (off + i * 4) (sci l i) := by
  obtain ⟨a, cap, rfl, h1, h2, h3⟩ := h
  obtain ⟨b, off, rfl, hc⟩ := h3 0 (by omega)
  refine ⟨b, off, cap, rfl, h1, h2, World.block_lt_of_cell? w _ hc.c0, fun i hi => ?_⟩
  obtain ⟨b', off', ha, hc'⟩ := h3 i hi
  have ha := Option.some.inj ha
  simp only [Addr.mk.injEq] at ha
  obtain ⟨rfl, rfl, _⟩ := ha
  exact hc'
theorem SSc.take {w : World} {a : Option Addr} {n cap : Nat} {l : List Sct} (h : SSc w (.slice a n cap) l) (k : Nat) (hk : k ≤ l.length) : SSc w (.slice a k cap) (l.take k) := by
  obtain ⟨a', cap', he, h1, h2, h3⟩ := h
  simp at he
  obtain ⟨rfl, rfl, rfl⟩ := he
  have hl : (l.take k).length = k := by simp; omega
  refine ⟨a, cap, by rw [hl], by omega, h2, fun i hi => ?_⟩
  rw [hl] at hi
  obtain ⟨b, off, ha, hc⟩ := h3 i (by omega)
  exact ⟨b, off, ha, by rw [sci_take hi]; exact hc⟩
theorem SSc.at {w : World} {a : Option Addr} {n cap : Nat} {l : List Sct} (h : SSc w (.slice a n cap) l) {i : Nat} (hi : i < l.length) : ∃ b off, a = some ⟨b, off, none⟩ ∧ ScAt w b (off + i * 4) (sci l i) := by
  obtain ⟨a', cap', he, h1, h2, h3⟩ := h
  simp at he
  obtain ⟨rfl, rfl, rfl⟩ := he
  exact h3 i hi
theorem SSc.n {w : World} {a : Option Addr} {n cap : Nat} {l : List Sct} (h : SSc w (.slice a n cap) l) : n = l.length := by
  obtain ⟨a', cap', he, _⟩ := h
  simp at he
  exact he.2.1

theorem sc_range {w : World} {b off : Nat} {x : Sct} (h : ScAt w b off x) : w.rangeAt b off (scCells x) := fun j v hv => by
  match j, hv with
  | 0, hv => cases hv; exact h.c0
  | 1, hv => cases hv; exact h.c1
  | 2, hv => cases hv; exact h.c2
  | 3, hv => cases hv; exact h.c3
def scA (x : Sct) : Array Value := #[.string (bs x.name), .int .i64 x.area, .int .i64 x.height, .int .i64 x.stock]
theorem scC {w : World} {b : Nat} {x : Sct} {e : TypeId} (h : ObjAt w b (scA x) e) : ScAt w b 0 x := ⟨h.cell 0, h.cell 1, h.cell 2, h.cell 3⟩
theorem copySc (w : World) (x : Sct) : ∃ W1, Hid (ObjAt W1 w.heap.size (scA x) 96) ∧ Hid (Below w.heap.size w W1) ∧ Hid (w.alloc (.cells #[.string (bs x.name), .int .i64 x.area, .int .i64 x.height, .int .i64 x.stock] 96) = W1) ∧ Hid (w.heap.size < W1.heap.size) :=
  ⟨w.alloc (.cells (scA x) 96), ObjAt.new _ _ _, (Below.refl _ _).alloc (Nat.le_refl _) _, rfl, by show _ < _; simp⟩
/-- what the slices of a part read as -/
structure PrtOK (w : World) (x : Prt) : Prop where
  o : SPt w x.ov x.outer
  n : x.hvs.length = x.holes.length
  hs : Sl w x.hv x.hvs.length fun i => x.hvs.getD i default
  h : ∀ i, i < x.holes.length → SPt w (x.hvs.getD i default) (x.holes.getD i [])
theorem PrtOK.keep {w w' : World} {x : Prt} (h : PrtOK w x) (hb : Below w.heap.size w w') : PrtOK w' x := ⟨h.o.keep hb, h.n, Sl.keep h.hs hb, fun i hi => (h.h i hi).keep hb⟩
structure PkgOK (w : World) (x : Pkg) : Prop where
  p : SZ w x.pv (x.parts.map bs)
  a : SZ w x.av (x.aft.map bs)
theorem PkgOK.keep {w w' : World} {x : Pkg} (h : PkgOK w x) (hb : Below w.heap.size w w') : PkgOK w' x := ⟨h.p.keep hb, h.a.keep hb⟩
def GrdOK (w : World) (x : Grd) : Prop := SI w x.gv x.gauges
theorem GrdOK.keep {w w' : World} {x : Grd} (h : GrdOK w x) (hb : Below w.heap.size w w') : GrdOK w' x := Sl.keep h hb
/-- all that a design holds -/
structure DesX (w : World) (D : Des) (ns : List Nod) (es : List Nd) (ps : List Prt) (ss : List Sea) (ks : List Pkg) : Prop extends DesOK w D ns es where
  p : SPr w (.slice D.p.a D.p.n D.p.c) ps
  s : SSm w (.slice D.s.a D.s.n D.s.c) ss
  k : SPk w (.slice D.k.a D.k.n D.k.c) ks
  po : ∀ x ∈ ps, PrtOK w x
  ko : ∀ x ∈ ks, PkgOK w x
theorem DesX.keep {w w' : World} {D : Des} {ns : List Nod} {es : List Nd} {ps : List Prt} {ss : List Sea} {ks : List Pkg} (h : DesX w D ns es ps ss ks) (hb : Below w.heap.size w w') : DesX w' D ns es ps ss ks :=
  ⟨h.toDesOK.keep hb, h.p.keep hb, h.s.keep hb, h.k.keep hb, fun x hx => (h.po x hx).keep hb, fun x hx => (h.ko x hx).keep hb⟩
/-- materials -/
structure MatOK (w : World) (g s : Sv) (gs : List Grd) (cs : List Sct) : Prop where
  g : SGr w (.slice g.a g.n g.c) gs
  s : SSc w (.slice s.a s.n s.c) cs
  go : ∀ x ∈ gs, GrdOK w x
theorem MatOK.keep {w w' : World} {g s : Sv} {gs : List Grd} {cs : List Sct} (h : MatOK w g s gs cs) (hb : Below w.heap.size w w') : MatOK w' g s gs cs := ⟨h.g.keep hb, h.s.keep hb, fun x hx => (h.go x hx).keep hb⟩
def matA (g s : Sv) : Array Value := #[.slice g.a g.n g.c, .slice s.a s.n s.c]
theorem boxM (w : World) (g s : Sv) : ∃ W1, Hid (ObjAt W1 w.heap.size (matA g s) 32) ∧ Hid (Below w.heap.size w W1) ∧ Hid (w.alloc (.cells #[.slice g.a g.n g.c, .slice s.a s.n s.c] 32) = W1) ∧ Hid (w.heap.size < W1.heap.size) :=
  ⟨w.alloc (.cells (matA g s) 32), ObjAt.new _ _ _, (Below.refl _ _).alloc (Nat.le_refl _) _, rfl, by show _ < _; simp⟩
end Go.Proofs.YtfpnjbomlmhlpaaGreat

/- Maps whose keys are strings, or told as strings: what they hold, by a list of entries. -/
namespace Go.Proofs.YtfpnjbomlmhlpaaGreat
open Go.RowKit Go.Maps

/-- an element reads as itself -/
def heldR : Value → Option (DataW Value × List MemPlace) := fun v => some (.held v, [])
abbrev KV := List (List UInt8 × Value)
def hasE (E : KV) (s : List UInt8) : Bool := E.any fun p => p.1 == s
def getE (E : KV) (s : List UInt8) (z : Value) : Value := (E.find? fun p => p.1 == s).elim z (·.2)
structure VD (D : DataW Value) (E : KV) : Prop where
  tidy : Tidy D
  at_ : ∀ s z, D.atKey (.string s) (.held z) = .held (getE E s z)
  has : ∀ s, Maps.has D (.string s) = hasE E s
  len : Maps.size D = E.length
  nd : (E.map (·.1)).Nodup
theorem VD.nil : VD (.map []) [] := ⟨tidy_empty, fun _ _ => rfl, fun _ => rfl, rfl, List.nodup_nil⟩
theorem has_mem {E : KV} {s : List UInt8} : hasE E s = true ↔ s ∈ E.map (·.1) := by
  unfold hasE
  rw [List.any_eq_true, List.mem_map]
  exact ⟨fun ⟨p, h1, h2⟩ => ⟨p, h1, eq_of_beq h2⟩, fun ⟨p, h1, h2⟩ => ⟨p, h1, beq_iff_eq.2 h2⟩⟩
theorem not_has {E : KV} {s : List UInt8} : hasE E s = false ↔ s ∉ E.map (·.1) := by rw [← has_mem]; simp
theorem keyLit {s : List UInt8} : WideAt.IsKeyLit (.string s) := by constructor
theorem lit_ne {s t : List UInt8} (h : s ≠ t) : (Lit.string s) ≠ .string t := fun e => h (by cases e; rfl)
theorem VD.put {D : DataW Value} {E : KV} (h : VD D E) {s : List UInt8} (hn : hasE E s = false) (v : Value) : VD (D.put (.string s) (.held v)) (E ++ [(s, v)]) := by
  refine ⟨h.tidy.put keyLit _, fun t z => ?_, fun t => ?_, ?_, ?_⟩
  · by_cases e : t = s
    · subst e
      rw [atKey_put_same h.tidy.isMap keyLit]
      unfold getE
      rw [List.find?_append, List.find?_eq_none.2 (fun p hp => by
        intro e; have := not_has.1 hn; exact this (List.mem_map.2 ⟨p, hp, eq_of_beq e⟩))]
      simp
    · rw [atKey_put_other (lit_ne e), h.at_]
      unfold getE
      rw [List.find?_append]
      cases E.find? (fun p => p.1 == t) with
      | some p => rfl
      | none => simp [Ne.symm e]
  · by_cases e : t = s
    · subst e; rw [has_put_same h.tidy.isMap keyLit]; unfold hasE; simp
    · rw [has_put_other (lit_ne e), h.has]; unfold hasE; simp [Ne.symm e]
  · rw [size_put h.tidy, h.has, hn, if_neg (by decide), h.len]; simp
  · rw [List.map_append]
    exact List.nodup_append.2 ⟨h.nd, by simp, fun x hx y hy => by simp at hy; subst hy; intro e; subst e; exact not_has.1 hn hx⟩
theorem VD.del {D : DataW Value} {E : KV} (h : VD D E) {s : List UInt8} (hs : hasE E s = true) : VD (D.del (.string s)) (E.filter fun p => !(p.1 == s)) ∧ (E.filter fun p => !(p.1 == s)).length + 1 = E.length := by
  have hl := size_del (k := .string s) h.tidy
  rw [h.has, hs, if_pos rfl, h.len] at hl
  have hc : (E.filter fun p => !(p.1 == s)).length + 1 = E.length := by
    have nd := h.nd
    have hm := has_mem.1 hs
    clear hl hs h
    induction E with
    | nil => simp at hm
    | cons p E ih =>
      rw [List.map_cons, List.nodup_cons] at nd
      by_cases e : p.1 = s
      · have : E.filter (fun p => !(p.1 == s)) = E := List.filter_eq_self.2 fun q hq => by
          have : q.1 ≠ s := fun e2 => nd.1 (by rw [e, ← e2]; exact List.mem_map_of_mem hq)
          simp [this]
        rw [List.filter_cons, if_neg (by simp [e]), this]; rfl
      · rw [List.map_cons, List.mem_cons] at hm
        rw [List.filter_cons, if_pos (by simp [e])]
        have := ih nd.2 (hm.resolve_left (Ne.symm e))
        simp only [List.length_cons]; omega
  refine ⟨⟨h.tidy.del _, fun t z => ?_, fun t => ?_, by omega, ?_⟩, hc⟩
  · by_cases e : t = s
    · subst e
      rw [atKey_del_same]
      unfold getE
      rw [List.find?_filter, List.find?_eq_none.2 (fun p _ => by simp)]
      rfl
    · rw [atKey_del_other (lit_ne e), h.at_]
      unfold getE
      rw [List.find?_filter]
      have : (fun p : List UInt8 × Value => decide ((!(p.1 == s)) = true ∧ (p.1 == t) = true)) = fun p => p.1 == t := by
        funext p
        by_cases e2 : p.1 = t
        · simp [e2, e]
        · simp [e2]
      simp only [this]
  · by_cases e : t = s
    · subst e
      rw [has_del_same]; symm
      unfold hasE; rw [List.any_filter, List.any_eq_false]; intro p _; simp
    · rw [has_del_other (lit_ne e), h.has]
      unfold hasE
      rw [List.any_filter]
      congr 1
      funext p
      by_cases e2 : p.1 = t
      · simp [e2, e]
      · simp [e2]
  · exact (h.nd.sublist (List.Sublist.map _ List.filter_sublist))
/-- block b is a map (of at most n entries) that holds these -/
def VM (ky : TypeId) (w : World) (b n : Nat) (E : KV) : Prop := ∃ D, w.ownsMap Tryz.prog ky heldR b n D ∧ VD D E
theorem keyK : Keyed Tryz.prog 9 := string_keyed Tryz.underlying9
theorem key_of {s : List UInt8} (h : s.length ≤ maxLen) : keyOf Tryz.prog 9 (.string (bs s)) = some (.string s) := by
  have := Go.WideMaps.keyOf_string_mk (P := Tryz.prog) Tryz.underlying9 (s := bs s) (by rw [bs_size]; exact h)
  rwa [bs_list] at this
theorem VM.made {ky : TypeId} (w : World) : VM ky (w.alloc (.map #[] 0)) w.heap.size 0 [] := ⟨.map [], World.ownsMap_made w _ _ _, .nil⟩
theorem VM.lt {ky : TypeId} {w : World} {b n : Nat} {E : KV} (h : VM ky w b n E) : b < w.heap.size := by obtain ⟨D, h1, _⟩ := h; exact h1.lt
theorem VM.keep {ky : TypeId} {w w' : World} {b n : Nat} {E : KV} (h : VM ky w b n E) (hb : Below w.heap.size w w') : VM ky w' b n E := by
  obtain ⟨D, ⟨es, clock, h1, r⟩, h2⟩ := h
  exact ⟨D, ⟨es, clock, by rw [hb.block b (Array.getElem?_eq_some_iff.1 h1).1]; exact h1, r⟩, h2⟩
theorem VM.kept {ky : TypeId} {w w' : World} {b n : Nat} {E : KV} {row : Option Nat} (h : VM ky w b n E) (hg : w.grownBy w' row) (hne : some b ≠ row) : VM ky w' b n E := by
  obtain ⟨D, h1, h2⟩ := h; exact ⟨D, h1.kept hg hne, h2⟩
theorem VM.mono {ky : TypeId} {w : World} {b n n' : Nat} {E : KV} (h : VM ky w b n E) (hn : n ≤ n') : VM ky w b n' E := by
  obtain ⟨D, h1, h2⟩ := h; exact ⟨D, h1.mono hn, h2⟩
theorem VM.setCell {ky : TypeId} {w : World} {b n : Nat} {E : KV} (h : VM ky w b n E) {a : Addr} (ha : b ≠ a.block) (u : Value) : VM ky (w.setCell a u) b n E := by
  obtain ⟨D, h1, h2⟩ := h; exact ⟨D, h1.setCell ha u, h2⟩
theorem turned_below {B : Nat} {w0 w w' : World} {b : Nat} (hb : Below B w0 w) (ht : w.mapTurned w' b) (h : B ≤ b) : Below B w0 w' := hb.grown ht.grown (by obtain ⟨es, c, _, _, e, _⟩ := ht; have := (Array.getElem?_eq_some_iff.1 e).1; omega) (fun q hq => by cases hq; exact h)
section
variable {ky : TypeId} (K : Keyed Tryz.prog ky) {kv : Value} {w : World} {b n : Nat} {E : KV} {s : List UInt8} {t e : TypeId}
include K in
theorem VM.look (h : VM ky w b n E) (ht : Tryz.prog.underlying t = some (.map ky e)) {z : Value} (hz : (zeroValue e).run Tryz.prog w = .ok z w) (hs : keyOf Tryz.prog ky kv = some (.string s)) :
    (Instr.lookup t (.map (some b)) kv true).run Tryz.prog w = .ok (.tuple #[getE E s z, .bool (hasE E s)]) w := by
  obtain ⟨D, h1, h2⟩ := h
  obtain ⟨v, ps, hr, hv⟩ := h1.look_ok K ht hz (zd := .held z) (zp := []) rfl hs
  rw [h2.at_, h2.has] at *
  have : v = getE E s z := by unfold heldR at hv; simpa using congrArg Prod.fst (Option.some.inj hv)
  rw [hr, this]
include K in
theorem VM.look1 (h : VM ky w b n E) (ht : Tryz.prog.underlying t = some (.map ky e)) {z : Value} (hz : (zeroValue e).run Tryz.prog w = .ok z w) (hs : keyOf Tryz.prog ky kv = some (.string s)) :
    (Instr.lookup t (.map (some b)) kv false).run Tryz.prog w = .ok (getE E s z) w := by
  obtain ⟨D, h1, h2⟩ := h
  obtain ⟨v, ps, hr, hv⟩ := h1.lookup K ht hz (zd := .held z) (zp := []) rfl hs
  rw [h2.at_] at hv
  have : v = getE E s z := by unfold heldR at hv; simpa using congrArg Prod.fst (Option.some.inj hv)
  rw [hr, this]
theorem VM.len (h : VM ky w b n E) (ht : Tryz.prog.underlying t = some (.map ky e)) (ty : TypeId) : (Builtin.len_ #[t] ty #[.map (some b)]).run Tryz.prog w = .ok (.int .i64 E.length) w := by
  obtain ⟨D, h1, h2⟩ := h
  rw [h1.len ht ty, h2.len]
include K in
theorem VM.store (h : VM ky w b n E) (ht : Tryz.prog.underlying t = some (.map ky e)) (hn : n < maxLen) (hs : keyOf Tryz.prog ky kv = some (.string s)) (hh : hasE E s = false) (v : Value) :
    ∃ w', (Instr.mapUpdate t (.map (some b)) kv v).run Tryz.prog w = .ok () w' ∧ VM ky w' b (n + 1) (E ++ [(s, v)]) ∧ w.mapTurned w' b := by
  obtain ⟨D, h1, h2⟩ := h
  obtain ⟨w', hr, h3, h4⟩ := h1.store K ht hn hs (val := v) (d := .held v) (ps := []) rfl
  exact ⟨w', hr, ⟨_, h3, h2.put hh v⟩, h4⟩
include K in
theorem VM.drop (h : VM ky w b n E) (ht : Tryz.prog.underlying t = some (.map ky e)) (hs : keyOf Tryz.prog ky kv = some (.string s)) (hh : hasE E s = true) (ty : TypeId) :
    ∃ w', (Builtin.delete_ #[t, ky] ty #[.map (some b), kv]).run Tryz.prog w = .ok (.tuple #[]) w' ∧ VM ky w' b n (E.filter fun p => !(p.1 == s)) ∧ w.mapTurned w' b := by
  obtain ⟨D, h1, h2⟩ := h
  obtain ⟨w', hr, h3, h4⟩ := h1.drop K ht hs ty
  exact ⟨w', hr, ⟨_, h3, (h2.del hh).1⟩, h4⟩
theorem VM.nd (h : VM ky w b n E) : (E.map (·.1)).Nodup := by obtain ⟨D, _, h2⟩ := h; exact h2.nd
end
end Go.Proofs.YtfpnjbomlmhlpaaGreat

/- Rows that are functions of the index; dag: ends, Order. -/
namespace Go.Proofs.YtfpnjbomlmhlpaaGreat
open Go.RowKit

def rowA (n : Nat) (f : Nat → Value) : Array Value := ((List.range n).map f).toArray
theorem rowA_size (n : Nat) (f : Nat → Value) : (rowA n f).size = n := by simp [rowA]
theorem rowA_get {n : Nat} {f : Nat → Value} {k : Nat} (h : k < n) : (rowA n f)[k]? = some (f k) := by simp [rowA, h]
theorem rowA_set {n : Nat} {f : Nat → Value} {k : Nat} {x : Value} : (rowA n f).setIfInBounds k x = rowA n fun j => if j = k then x else f j := by
  apply Array.ext_getElem?
  intro j
  rw [Array.getElem?_setIfInBounds, rowA_size]
  by_cases hj : j < n
  · rw [rowA_get hj, rowA_get hj]
    by_cases e : k = j
    · subst e; rw [if_pos rfl, if_pos hj, if_pos rfl]
    · rw [if_neg e, if_neg (fun h => e h.symm)]
  · have h1 : ∀ g : Nat → Value, (rowA n g)[j]? = none := fun g => Array.getElem?_eq_none (by rw [rowA_size]; omega)
    rw [h1, h1]
    split
    · rename_i e; subst e; rw [if_neg hj]
    · rfl
theorem rowA_congr {n : Nat} {f g : Nat → Value} (h : ∀ k, k < n → f k = g k) : rowA n f = rowA n g := by
  unfold rowA; rw [List.map_congr_left fun k hk => h k (List.mem_range.1 hk)]
theorem rowA_const (n : Nat) (x : Value) : Array.replicate n x = rowA n fun _ => x := by
  apply Array.ext
  · simp [rowA]
  · intro j h1 h2; simp [rowA]
theorem info_bool : (Tryz.prog.info? 4).map (fun i => (i.zero, i.size, i.bytes)) = some (some (.bool false), 1, 1) := by kernel_rfl
theorem info_int : (Tryz.prog.info? 3).map (fun i => (i.zero, i.size, i.bytes)) = some (some (.int .i64 0), 1, 8) := by kernel_rfl
theorem made_row (n : Nat) (x : Value) (hx : x.cells = #[x]) : madeCells x.cells (n * 1) = Array.replicate n x := by
  rw [hx]
  apply Array.ext
  · simp [madeCells]
  · intro j h1 h2
    simp [madeCells, Nat.mod_one]
theorem make_bools (n : Nat) (hn : n ≤ 100000) (w : World) : (Instr.makeSlice 84 (.int .i64 (n : Int)) (.int .i64 (n : Int))).run Tryz.prog w = .ok (.slice (some ⟨w.heap.size, 0, none⟩) n n) (w.alloc (.cells (rowA n fun _ => .bool false) 4)) := by
  obtain ⟨i, hi, hz0, hz1, hz2⟩ := info_parts info_bool
  have h := run_make (P := Tryz.prog) w 84 4 i (.bool false) Tryz.underlying84 hi hz0 .i64 .i64 n n (by omega) (by omega) (by rw [hz2]; omega) (by omega)
  rw [hz1, Int.toNat_natCast, made_row n (.bool false) rfl, rowA_const] at h
  exact h
theorem make_ints (n : Nat) (hn : n ≤ 100000) (w : World) : (Instr.makeSlice 65 (.int .i64 (n : Int)) (.int .i64 (n : Int))).run Tryz.prog w = .ok (.slice (some ⟨w.heap.size, 0, none⟩) n n) (w.alloc (.cells (rowA n fun _ => .int .i64 0) 3)) := by
  obtain ⟨i, hi, hz0, hz1, hz2⟩ := info_parts info_int
  have h := run_make (P := Tryz.prog) w 65 3 i (.int .i64 0) Tryz.underlying65 hi hz0 .i64 .i64 n n (by omega) (by omega) (by rw [hz2]; omega) (by omega)
  rw [hz1, Int.toNat_natCast, made_row n (.int .i64 0) rfl, rowA_const] at h
  exact h
theorem make_room (n : Nat) (hn : n ≤ 100000) (w : World) : (Instr.makeSlice 65 (.int .i64 0) (.int .i64 (n : Int))).run Tryz.prog w = .ok (.slice (some ⟨w.heap.size, 0, none⟩) 0 n) (w.alloc (.cells (rowA n fun _ => .int .i64 0) 3)) := by
  obtain ⟨i, hi, hz0, hz1, hz2⟩ := info_parts info_int
  have h := run_make (P := Tryz.prog) w 65 3 i (.int .i64 0) Tryz.underlying65 hi hz0 .i64 .i64 0 n (by omega) (by omega) (by rw [hz2]; omega) (by omega)
  rw [hz1, Int.toNat_natCast, made_row n (.int .i64 0) rfl, rowA_const] at h
  exact h
theorem room_own (w : World) (n : Nat) (hn : n ≤ 100000) {B : Nat} (hB : B ≤ w.heap.size) : OwnI (w.alloc (.cells (rowA n fun _ => .int .i64 0) 3)) B (.slice (some ⟨w.heap.size, 0, none⟩) 0 n) [] :=
  ⟨rfl, .inr ⟨w.heap.size, n, rowA n fun _ => .int .i64 0, rfl, hB, World.alloc_heap_new w _, Nat.zero_le _, by unfold maxLen; omega, by rw [rowA_size, Nat.mul_one], rfl⟩⟩
/-- edges are right -/
def EdgOK (n : Nat) (E : Edg) : Prop := ∀ e ∈ E, e.1 < n ∧ e.2 < n ∧ e.1 ≠ e.2
def egA (x : Nat × Nat) : Array Value := #[.int .i64 x.1, .int .i64 x.2]
theorem egC {w : World} {b : Nat} {x : Nat × Nat} {e : TypeId} (h : ObjAt w b (egA x) e) : EgAt w b 0 x := ⟨h.cell 0, h.cell 1⟩
theorem copyEg (w : World) (x : Nat × Nat) : ∃ W1, Hid (ObjAt W1 w.heap.size (egA x) 86) ∧ Hid (Below w.heap.size w W1) ∧ Hid (w.alloc (.cells #[.int .i64 x.1, .int .i64 x.2] 86) = W1) ∧ Hid (w.heap.size < W1.heap.size) :=
  ⟨w.alloc (.cells (egA x) 86), ObjAt.new _ _ _, (Below.refl _ _).alloc (Nat.le_refl _) _, rfl, by show _ < _; simp⟩
set_option maxRecDepth 100000 in
set_option maxHeartbeats 1000000 in
theorem ends_any (n : Nat) (ev : Value) (E : Edg) (w : World) (h : SEg w ev E) (hE : EdgOK n E) (hl : E.length ≤ 1000000) : Calls Tryz.prog 69 #[.int .i64 n, ev] w (Ret w (.int .i64 0)) := by
  obtain ⟨a, cap, rfl, h1, h2, h3⟩ := h
  have H3 := Lib.hid h3; have HE := Lib.hid hE
  clear h3 hE
  have hm : E.length ≤ 9223372036854775807 := by omega
  go_enter Tryz.func69, Tryz.ntmps69
  go_wp2_with fail
  go_loopw [9] (fun i wr => ∃ k : Nat, k ≤ E.length ∧ i = .int .i64 k ∧ Hid (Below w.heap.size w wr)) (fun i _ => E.length - (intOf i).toNat)
  case atStart => exact ⟨0, Nat.zero_le _, rfl, Below.refl _ _⟩
  case round =>
    obtain ⟨k, hk, rfl, hb⟩ := hrel
    by_cases hlt : k < E.length
    · obtain ⟨b, off, rfl, hc⟩ := H3.out k hlt
      obtain ⟨c0, c1⟩ := hc.keep hb.out
      obtain ⟨W2, HO2, HC2, HW, HZ2⟩ := copyEg wr (egi E k)
      have HB2 := Lib.hid (ext_trans hb.out HC2.out)
      obtain ⟨e1, e2, e3⟩ := HE.out _ (egi_mem hlt)
      generalize egi E k = x at *
      clear hc
      go_upto_region 4 with fail
      rw [HW.out]
      clear c0 c1 HW
      obtain ⟨c0, c1⟩ := egC HO2.out
      rw [Nat.zero_add] at c1
      have d1 : ¬ ((x.1 : Int) < 0) := by omega
      have d2 : ¬ ((n : Int) ≤ x.1) := by omega
      have d3 : ¬ ((x.2 : Int) < 0) := by omega
      have d4 : ¬ ((n : Int) ≤ x.2) := by omega
      have d5 : ((x.1 : Int) == (x.2 : Int)) = false := by rw [beq_eq_false_iff_ne]; omega
      go_wp2_with fail
      go_roundw
      case rel => exact ⟨k + 1, by omega, by go_num, HB2⟩
      case measure => simp [intOf]; omega
    · obtain rfl : k = E.length := by omega
      go_wp2_with fail
      go_ret
      exact ⟨rfl, hb.out⟩
end Go.Proofs.YtfpnjbomlmhlpaaGreat
