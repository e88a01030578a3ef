/- Contracts: parts, IsId, Split, Join, Same of the reference of ident. -/
import Derived.Test.YtfpnjbomlmhlpaaGreatPk03
import Derived.Test.YtfpnjbomlmhlpaaGreatShelf
import Derived.Lib.Join
import Derived.Test.YtfpnjbomlmhlpaaGreatPk02
import Derived.Lib.Bytes
set_option linter.unusedSimpArgs false
set_option linter.unusedVariables false

/- Contracts: the reference's IsName; names, IsId, Split, Join of ident. -/
namespace Go.Proofs.YtfpnjbomlmhlpaaGreat
open Go.RowKit

def SZ (w : World) (v : Value) (ss : List ByteArray) : Prop := Sl w v ss.length fun i => .string (zi ss i)
def bl (ss : List ByteArray) : List (List UInt8) := ss.map (·.data.toList)
theorem SZ.keep {w w' : World} {v : Value} {xs : List ByteArray} (h : SZ w v xs) (hb : Below w.heap.size w w') : SZ w' v xs := Sl.keep h hb
theorem SZ_nil (w : World) : SZ w (.slice none 0 0) [] := ⟨none, 0, rfl, Nat.le_refl _, Nat.zero_le _, fun i hi => by simp at hi⟩
theorem zi_lt {ss : List ByteArray} {k : Nat} (h : k < ss.length) : zi ss k = ss[k] := by simp [zi, h]
theorem zi_mem {ss : List ByteArray} {k : Nat} (h : k < ss.length) : zi ss k ∈ ss := by rw [zi_lt h]; exact List.getElem_mem h
theorem mem_zi {ss : List ByteArray} {x : ByteArray} (h : x ∈ ss) : ∃ k, k < ss.length ∧ zi ss k = x := by
  obtain ⟨k, hk, rfl⟩ := List.mem_iff_getElem.1 h; exact ⟨k, hk, zi_lt hk⟩
theorem take_succ_zi {ss : List ByteArray} {k : Nat} (h : k < ss.length) : ss.take (k + 1) = ss.take k ++ [zi ss k] := by
  rw [List.take_succ_eq_append_getElem h, zi_lt h]
theorem size_data (s : ByteArray) : s.data.toList.length = s.size := by simp
theorem SZ_lit (w : World) (ss : List ByteArray) (e : TypeId) (h : ss.length ≤ maxLen) : SZ (w.alloc (.cells (ss.map Value.string).toArray e)) (.slice (some ⟨w.heap.size, 0, none⟩) ss.length ss.length) ss := by
  refine ⟨_, _, rfl, Nat.le_refl _, h, fun i hi => ⟨w.heap.size, 0, rfl, ?_⟩⟩
  simp [zi_lt hi, hi]

theorem split_form (s : ByteArray) : (Lib.splitB ⟨#[46]⟩ 0 (Lib.countB s ⟨#[46]⟩) s).length = Lib.countB s ⟨#[46]⟩ + 1 ∧ bl (Lib.splitB ⟨#[46]⟩ 0 (Lib.countB s ⟨#[46]⟩) s) = cutL s.data.toList := by
  have h : bl (Lib.splitB ⟨#[46]⟩ 0 (Lib.countB s ⟨#[46]⟩) s) = cutL s.data.toList := by
    unfold bl
    rw [Lib.splitB_data]
    exact split_dot s.data.toList
  refine ⟨?_, h⟩
  have h2 := congrArg List.length h
  unfold bl at h2
  rw [List.length_map, cutL_length] at h2
  rw [h2]
  show _ = Lib.count s.data.toList [46] + 1
  rw [count_dot _ _ rfl]
set_option maxHeartbeats 1000000 in
theorem rIsName_any (s : ByteArray) (w : World) (hs : s.size ≤ maxLen) : Calls Tryz.prog 46 #[.string s] w fun e w' => e = .returned (.bool (nameB s.data.toList)) ∧ ∃ m, w' = w.drewN m := by
  unfold maxLen at hs
  by_cases h0 : s.size = 0
  · have := byte_empty h0
    subst this
    clear h0 hs
    go_enter Tryz.func46, Tryz.ntmps46
    go_wp2_with fail
    go_ret
    exact ⟨ret_bool nameB_empty.symm, 0, rfl⟩
  have hne : s.toList.isEmpty = false := by
    rw [toList_data]
    cases h : s.data.toList with
    | nil => have : s.data.toList.length = s.size := by simp
             rw [h] at this; simp at this; omega
    | cons x xs => rfl
  have hne2 : s.toList = [] ↔ False := by rw [iff_false]; intro h; rw [h] at hne; cases hne
  by_cases h16 : 16 < s.size
  · have HN := Lib.hid (nameB_long h16)
    have hb : decide ((16 : Int) < s.size) = true := by rw [decide_eq_true_eq]; omega
    go_enter Tryz.func46, Tryz.ntmps46
    go_wp2_with fail
    go_ret
    exact ⟨ret_bool HN.out.symm, 0, rfl⟩
  have hb : decide ((16 : Int) < s.size) = false := by rw [decide_eq_false_iff_not]; omega
  have hpos : 0 < s.size := by omega
  go_enter Tryz.func46, Tryz.ntmps46
  go_wp2_with fail
  refine (letter_any (s[0]'hpos) _).mono ?_
  rintro e w1 ⟨rfl, m1, rfl⟩
  have HAT0 : Hid (okAt s 0 = letC (s[0]'hpos)) := by show _ = _; unfold okAt; rw [if_pos rfl, getD_byte s hpos]
  cases hl0 : letC (s[0]'hpos)
  · have HN := Lib.hid (nameB_not hpos (HAT0.out.trans hl0))
    clear hl0
    go_wp2_with fail
    go_ret
    exact ⟨ret_bool HN.out.symm, m1, rfl⟩
  have HA0 := Lib.hid (HAT0.out.trans hl0)
  clear hl0 HAT0
  go_wp2_with fail
  go_loopw [3] (fun i wr => ∃ k : Nat, k ≤ s.size ∧ i = .int .i64 k ∧ (∃ m, wr = w.drewN m) ∧ Hid (∀ j, j < k → okC (s.data.toList.getD j 0) = true)) (fun i _ => s.size - (intOf i).toNat)
  case atStart => exact ⟨0, Nat.zero_le _, rfl, ⟨_, rfl⟩, fun j hj => by omega⟩
  case round =>
    obtain ⟨k, hk, rfl, ⟨m, rfl⟩, hj⟩ := hrel
    by_cases hlt : k < s.size
    · have HGB := Lib.hid (getD_byte s hlt)
      have HYES : Hid (okC (s.data.toList.getD k 0) = true → ∀ j, j < k + 1 → okC (s.data.toList.getD j 0) = true) := fun h => upto hj.out h
      have HNO : Hid (okC (s.data.toList.getD k 0) = false → nameB s.data.toList = false) := fun h => by
        refine nameB_not hlt ?_
        unfold okAt
        split
        · rename_i hz
          subst hz
          cases h3 : letC (s.data.toList.getD 0 0)
          · rfl
          · rw [okC_let h3] at h; cases h
        · exact h
      have HOK : Hid (okC (s[k]'hlt) = (letC (s[k]'hlt) || digC (s[k]'hlt) || s[k]'hlt == 95 || s[k]'hlt == 45)) := rfl
      have HL := Lib.hid (letter_any (s[k]'hlt))
      have HD := Lib.hid (digit_any (s[k]'hlt))
      have e95 : ((s[k]'hlt).toNat : Int) = 95 ↔ (s[k]'hlt == 95) = true := by rw [beq_iff_eq, ← UInt8.toNat_inj]; show _ ↔ _ = 95; omega
      have e45 : ((s[k]'hlt).toNat : Int) = 45 ↔ (s[k]'hlt == 45) = true := by rw [beq_iff_eq, ← UInt8.toNat_inj]; show _ ↔ _ = 45; omega
      rw [HGB.out] at HYES HNO
      have E95 := Lib.hid e95
      have E45 := Lib.hid e45
      clear hj e95 e45
      go_wp2_with fail
      refine (HL.out _).mono ?_
      rintro e w1 ⟨rfl, m1, rfl⟩
      cases h1 : letC (s[k]'hlt)
      · go_wp2_with fail
        refine (HD.out _).mono ?_
        rintro e w1 ⟨rfl, m2, rfl⟩
        cases h2 : digC (s[k]'hlt)
        · rw [h1, h2] at HOK
          by_cases h3 : ((s[k]'hlt).toNat : Int) = 95
          · have b3 : (((s[k]'hlt).toNat : Int) != 95) = false := by rw [h3]; rfl
            have HR := Lib.hid (HYES.out (by rw [HOK.out, E95.out.1 h3]; rfl))
            clear h1 h2 h3
            go_wp2_with fail
            go_roundw
            case rel => exact ⟨k + 1, by omega, by go_num, ⟨_, rfl⟩, HR.out⟩
            case measure => simp [intOf]; omega
          · have b3 : (((s[k]'hlt).toNat : Int) != 95) = true := by rw [bne_iff_ne]; exact h3
            by_cases h4 : ((s[k]'hlt).toNat : Int) = 45
            · have b4 : (((s[k]'hlt).toNat : Int) != 45) = false := by rw [h4]; rfl
              have HR := Lib.hid (HYES.out (by rw [HOK.out, E45.out.1 h4]; simp))
              clear h1 h2 h3 h4
              go_wp2_with fail
              go_roundw
              case rel => exact ⟨k + 1, by omega, by go_num, ⟨_, rfl⟩, HR.out⟩
              case measure => simp [intOf]; omega
            · have b4 : (((s[k]'hlt).toNat : Int) != 45) = true := by rw [bne_iff_ne]; exact h4
              have h5 : (s[k]'hlt == 95) = false := by
                cases h : (s[k]'hlt == 95)
                · rfl
                · exact absurd (E95.out.2 h) h3
              have h6 : (s[k]'hlt == 45) = false := by
                cases h : (s[k]'hlt == 45)
                · rfl
                · exact absurd (E45.out.2 h) h4
              have HR := Lib.hid (HNO.out (by rw [HOK.out, h5, h6]; rfl))
              clear h1 h2 h3 h4 h5 h6
              go_wp2_with fail
              go_ret
              exact ⟨ret_bool HR.out.symm, _, rfl⟩
        · have HR := Lib.hid (HYES.out (by rw [HOK.out, h1, h2]; rfl))
          clear h1 h2
          go_wp2_with fail
          go_roundw
          case rel => exact ⟨k + 1, by omega, by go_num, ⟨_, rfl⟩, HR.out⟩
          case measure => simp [intOf]; omega
      · have HR := Lib.hid (HYES.out (by rw [HOK.out, h1]; rfl))
        clear h1
        go_wp2_with fail
        go_roundw
        case rel => exact ⟨k + 1, by omega, by go_num, ⟨_, rfl⟩, HR.out⟩
        case measure => simp [intOf]; omega
    · have HN : Hid (nameB s.data.toList = true) := nameB_all hpos (by omega) fun j hjs => by
        by_cases hz : j = 0
        · subst hz; exact HA0.out
        · unfold okAt; rw [if_neg hz]; exact hj.out j (by omega)
      go_wp2_with fail
      go_ret
      exact ⟨ret_bool HN.out.symm, _, rfl⟩
end Go.Proofs.YtfpnjbomlmhlpaaGreat

/- Jobs, entries, needs, nodes, edges in memory (printed by wip/gen_schmem.py). -/
namespace Go.Proofs.YtfpnjbomlmhlpaaGreat
open Go.RowKit

def bs (l : List UInt8) : ByteArray := ⟨l.toArray⟩
theorem bs_list (l : List UInt8) : (bs l).data.toList = l := rfl
theorem bs_of (s : ByteArray) : bs s.data.toList = s := by cases s; simp [bs]
theorem bs_size (l : List UInt8) : (bs l).size = l.length := by simp [bs, ByteArray.size]
theorem bs_inj {a b : List UInt8} (h : bs a = bs b) : a = b := by rw [← bs_list a, h, bs_list]
theorem bs_toList (l : List UInt8) : (bs l).toList = l := by rw [Lib.toList_data, bs_list]
theorem bs_eq (a b : List UInt8) : ((bs a).toList == (bs b).toList) = (a == b) := by rw [bs_toList, bs_toList]

/-- a job with the slice of its cranes -/
structure MH where
  h : Hst
  cv : Value
instance : Inhabited MH := ⟨⟨default, .slice none 0 0⟩⟩
structure Nod where
  id : List UInt8
  kind : Int
  parent : List UInt8
instance : Inhabited Nod := ⟨⟨[], 0, []⟩⟩
def mhi (l : List MH) (k : Nat) : MH := l.getD k default
def eri (l : List Ern) (k : Nat) : Ern := l.getD k default
def noi (l : List Nod) (k : Nat) : Nod := l.getD k default
def egi (l : Edg) (k : Nat) : Nat × Nat := l.getD k default
def hl (l : List MH) : List Hst := l.map (·.h)
theorem hl_len (l : List MH) : (hl l).length = l.length := by simp [hl]
theorem hsi_ml {l : List MH} {k : Nat} (h : k < l.length) : hsi (hl l) k = (mhi l k).h := by simp [hsi, hl, mhi, h]
/-- those slices read as the jobs' cranes -/
def Crn (w : World) (l : List MH) : Prop := ∀ m ∈ l, SZ w m.cv (m.h.cranes.map bs)
theorem Crn.keep {w w' : World} {l : List MH} (h : Crn w l) (hb : Below w.heap.size w w') : Crn w' l := fun m hm => (h m hm).keep hb
theorem zi_bs {l : List (List UInt8)} {k : Nat} (h : k < l.length) : zi (l.map bs) k = bs l[k] := by simp [zi, h]

/-! MH -/
def hsCells (x : MH) : List Value := [.string (bs x.h.block), .int .i64 x.h.hours, x.cv]
theorem hsCells_len (x : MH) : (hsCells x).length = 3 := rfl
theorem mhi_lt {l : List MH} {k : Nat} (h : k < l.length) : mhi l k = l[k] := by simp [mhi, h]
theorem mhi_mem {l : List MH} {k : Nat} (h : k < l.length) : mhi l k ∈ l := by rw [mhi_lt h]; exact List.getElem_mem h
theorem mem_mhi {l : List MH} {x : MH} (h : x ∈ l) : ∃ k, k < l.length ∧ mhi l k = x := by
  obtain ⟨k, hk, rfl⟩ := List.mem_iff_getElem.1 h; exact ⟨k, hk, mhi_lt hk⟩
theorem take_mhi {l : List MH} {k : Nat} (h : k < l.length) : l.take (k + 1) = l.take k ++ [mhi l k] := by
  rw [List.take_succ_eq_append_getElem h, mhi_lt h]
theorem mhi_take {l : List MH} {k n : Nat} (h : k < n) : mhi (l.take n) k = mhi l k := by
  simp [mhi, List.getElem?_take, h]
structure HsAt (w : World) (b off : Nat) (x : MH) : Prop where
  c0 : w.cell? ⟨b, off, none⟩ = some (.string (bs x.h.block))
  c1 : w.cell? ⟨b, off + 1, none⟩ = some (.int .i64 x.h.hours)
  c2 : w.cell? ⟨b, off + 2, none⟩ = some (x.cv)
theorem HsAt.keep {w w' : World} {b off : Nat} {x : MH} (h : HsAt w b off x) (hb : Below w.heap.size w w') : HsAt w' b off x := ⟨cell_keep hb h.c0, cell_keep hb h.c1, cell_keep hb h.c2⟩
/-- a slice that reads as such a list -/
def SHs (w : World) (v : Value) (l : List MH) : Prop :=
  ∃ a cap, v = .slice a l.length cap ∧ l.length ≤ cap ∧ cap ≤ maxLen ∧ ∀ i, i < l.length → ∃ b off, a = some ⟨b, off, none⟩ ∧ HsAt w b (off + i * 3) (mhi l i)
theorem SHs.keep {w w' : World} {v : Value} {l : List MH} (h : SHs w v l) (hb : Below w.heap.size w w') : SHs w' v l := by
  obtain ⟨a, cap, rfl, h1, h2, h3⟩ := h
  exact ⟨a, cap, rfl, h1, h2, fun i hi => by obtain ⟨b, off, ha, hc⟩ := h3 i hi; exact ⟨b, off, ha, hc.keep hb⟩⟩
theorem SHs.len {w : World} {v : Value} {l : List MH} (h : SHs w v l) : l.length ≤ maxLen := by obtain ⟨a, cap, _, h1, h2, _⟩ := h; omega
theorem SHs_nil (w : World) : SHs w (.slice none 0 0) [] := ⟨none, 0, rfl, Nat.le_refl _, Nat.zero_le _, fun i hi => by simp at hi⟩
theorem SHs.form {w : World} {v : Value} {l : List MH} (h : SHs w v l) (hl : 1 ≤ l.length) : ∃ b off cap, v = .slice (some ⟨b, off, none⟩) l.length cap ∧ l.length ≤ cap ∧ cap ≤ maxLen ∧ b < w.heap.size ∧ ∀ i, i < l.length → HsAt w b (off + i * 3) (mhi l i) := by
  obtain ⟨a, cap, rfl, h1, h2, h3⟩ := h
  obtain ⟨b, off, rfl, hc⟩ := h3 0 (by omega)
  refine ⟨b, off, cap, rfl, h1, h2, World.block_lt_of_cell? w _ hc.c0, fun i hi => ?_⟩
  obtain ⟨b', off', ha, hc'⟩ := h3 i hi
  have ha := Option.some.inj ha
  simp only [Addr.mk.injEq] at ha
  obtain ⟨rfl, rfl, _⟩ := ha
  exact hc'
theorem SHs.take {w : World} {a : Option Addr} {n cap : Nat} {l : List MH} (h : SHs w (.slice a n cap) l) (k : Nat) (hk : k ≤ l.length) : SHs w (.slice a k cap) (l.take k) := by
  obtain ⟨a', cap', he, h1, h2, h3⟩ := h
  simp at he
  obtain ⟨rfl, rfl, rfl⟩ := he
  have hl : (l.take k).length = k := by simp; omega
  refine ⟨a, cap, by rw [hl], by omega, h2, fun i hi => ?_⟩
  rw [hl] at hi
  obtain ⟨b, off, ha, hc⟩ := h3 i (by omega)
  exact ⟨b, off, ha, by rw [mhi_take hi]; exact hc⟩
theorem SHs.at {w : World} {a : Option Addr} {n cap : Nat} {l : List MH} (h : SHs w (.slice a n cap) l) {i : Nat} (hi : i < l.length) : ∃ b off, a = some ⟨b, off, none⟩ ∧ HsAt w b (off + i * 3) (mhi l i) := by
  obtain ⟨a', cap', he, h1, h2, h3⟩ := h
  simp at he
  obtain ⟨rfl, rfl, rfl⟩ := he
  exact h3 i hi
theorem SHs.n {w : World} {a : Option Addr} {n cap : Nat} {l : List MH} (h : SHs w (.slice a n cap) l) : n = l.length := by
  obtain ⟨a', cap', he, _⟩ := h
  simp at he
  exact he.2.1
def OwnHs (w : World) (B : Nat) (v : Value) (l : List MH) : Prop := w.ownsRow B 59 3 v l.length (l.flatMap hsCells)
theorem OwnHs_nil (w : World) (B : Nat) : OwnHs w B (.slice none 0 0) [] := World.ownsRow_nil _ _ _ _
theorem OwnHs.below {w w' : World} {B : Nat} {v : Value} {l : List MH} (h : OwnHs w B v l) (hb : Below w.heap.size w w') : OwnHs w' B v l := owns_below h hb
theorem OwnHs.alloc {w : World} {B : Nat} {v : Value} {l : List MH} (h : OwnHs w B v l) (o : Obj) : OwnHs (w.alloc o) B v l := World.ownsRow.alloc h o
theorem OwnHs.mono {w : World} {B B' : Nat} {v : Value} {l : List MH} (h : OwnHs w B v l) (hb : B' ≤ B) : OwnHs w B' v l := owns_mono h hb
theorem OwnHs.lt {w : World} {B : Nat} {v : Value} {l : List MH} (h : OwnHs w B v l) (k : Nat) (hk : v.ownBlock = some k) : B ≤ k ∧ k < w.heap.size := World.ownsRow.lt h k hk
theorem OwnHs.at {w : World} {B g n cap : Nat} {l : List MH} (h : OwnHs w B (.slice (some ⟨g, 0, none⟩) n cap) l) {i : Nat} (hi : i < l.length) : HsAt w g (i * 3) (mhi l i) := by
  have h0 : w.ownsRow B 59 3 (.slice (some ⟨g, 0, none⟩) n cap) l.length (l.flatMap hsCells) := h
  rcases own_flat_form h0 with ⟨hn, _⟩ | ⟨g', cap', he, _, _, _, _, hc⟩
  · cases hn
  · simp at he
    obtain ⟨rfl, _, _⟩ := he
    have key : ∀ j, j < 3 → w.cell? ⟨g, i * 3 + j, none⟩ = (hsCells (mhi l i))[j]? := fun j hj => by
      rw [hc (i * 3 + j) (by omega), flat_get hsCells hsCells_len l i j hi hj, mhi_lt hi]
    exact ⟨key 0 (by omega), key 1 (by omega), key 2 (by omega)⟩
theorem OwnHs.s {w : World} {B : Nat} {v : Value} {l : List MH} (h : OwnHs w B v l) : SHs w v l := by
  rcases own_flat_form h with ⟨rfl, rfl⟩ | ⟨g, cap, rfl, _, _, hn, hm, _⟩
  · exact SHs_nil w
  · exact ⟨_, cap, rfl, hn, hm, fun i hi => ⟨g, 0, rfl, by rw [Nat.zero_add]; exact OwnHs.at h hi⟩⟩

/-! Ern -/
def enCells (x : Ern) : List Value := [.string (bs x.block), .string (bs x.crane), .int .i64 x.a, .int .i64 x.b]
theorem enCells_len (x : Ern) : (enCells x).length = 4 := rfl
theorem eri_lt {l : List Ern} {k : Nat} (h : k < l.length) : eri l k = l[k] := by simp [eri, h]
theorem eri_mem {l : List Ern} {k : Nat} (h : k < l.length) : eri l k ∈ l := by rw [eri_lt h]; exact List.getElem_mem h
theorem mem_eri {l : List Ern} {x : Ern} (h : x ∈ l) : ∃ k, k < l.length ∧ eri l k = x := by
  obtain ⟨k, hk, rfl⟩ := List.mem_iff_getElem.1 h; exact ⟨k, hk, eri_lt hk⟩
theorem take_eri {l : List Ern} {k : Nat} (h : k < l.length) : l.take (k + 1) = l.take k ++ [eri l k] := by
  rw [List.take_succ_eq_append_getElem h, eri_lt h]
theorem eri_take {l : List Ern} {k n : Nat} (h : k < n) : eri (l.take n) k = eri l k := by
  simp [eri, List.getElem?_take, h]
structure EnAt (w : World) (b off : Nat) (x : Ern) : Prop where
  c0 : w.cell? ⟨b, off, none⟩ = some (.string (bs x.block))
  c1 : w.cell? ⟨b, off + 1, none⟩ = some (.string (bs x.crane))
  c2 : w.cell? ⟨b, off + 2, none⟩ = some (.int .i64 x.a)
  c3 : w.cell? ⟨b, off + 3, none⟩ = some (.int .i64 x.b)
theorem EnAt.keep {w w' : World} {b off : Nat} {x : Ern} (h : EnAt w b off x) (hb : Below w.heap.size w w') : EnAt w' b off x := ⟨cell_keep hb h.c0, cell_keep hb h.c1, cell_keep hb h.c2, cell_keep hb h.c3⟩
/-- a slice that reads as such a list -/
def SEn (w : World) (v : Value) (l : List Ern) : Prop :=
  ∃ a cap, v = .slice a l.length cap ∧ l.length ≤ cap ∧ cap ≤ maxLen ∧ ∀ i, i < l.length → ∃ b off, a = some ⟨b, off, none⟩ ∧ EnAt w b (off + i * 4) (eri l i)
theorem SEn.keep {w w' : World} {v : Value} {l : List Ern} (h : SEn w v l) (hb : Below w.heap.size w w') : SEn w' v l := by
  obtain ⟨a, cap, rfl, h1, h2, h3⟩ := h
  exact ⟨a, cap, rfl, h1, h2, fun i hi => by obtain ⟨b, off, ha, hc⟩ := h3 i hi; exact ⟨b, off, ha, hc.keep hb⟩⟩
theorem SEn.len {w : World} {v : Value} {l : List Ern} (h : SEn w v l) : l.length ≤ maxLen := by obtain ⟨a, cap, _, h1, h2, _⟩ := h; omega
theorem SEn_nil (w : World) : SEn w (.slice none 0 0) [] := ⟨none, 0, rfl, Nat.le_refl _, Nat.zero_le _, fun i hi => by simp at hi⟩
theorem SEn.form {w : World} {v : Value} {l : List Ern} (h : SEn w v l) (hl : 1 ≤ l.length) : ∃ b off cap, v = .slice (some ⟨b, off, none⟩) l.length cap ∧ l.length ≤ cap ∧ cap ≤ maxLen ∧ b < w.heap.size ∧ ∀ i, i < l.length → EnAt w b (off + i * 4) (eri l i) := by
  obtain ⟨a, cap, rfl, h1, h2, h3⟩ := h
  obtain ⟨b, off, rfl, hc⟩ := h3 0 (by omega)
  refine ⟨b, off, cap, rfl, h1, h2, World.block_lt_of_cell? w _ hc.c0, fun i hi => ?_⟩
  obtain ⟨b', off', ha, hc'⟩ := h3 i hi
  have ha := Option.some.inj ha
  simp only [Addr.mk.injEq] at ha
  obtain ⟨rfl, rfl, _⟩ := ha
  exact hc'
theorem SEn.take {w : World} {a : Option Addr} {n cap : Nat} {l : List Ern} (h : SEn w (.slice a n cap) l) (k : Nat) (hk : k ≤ l.length) : SEn w (.slice a k cap) (l.take k) := by
  obtain ⟨a', cap', he, h1, h2, h3⟩ := h
  simp at he
  obtain ⟨rfl, rfl, rfl⟩ := he
  have hl : (l.take k).length = k := by simp; omega
  refine ⟨a, cap, by rw [hl], by omega, h2, fun i hi => ?_⟩
  rw [hl] at hi
  obtain ⟨b, off, ha, hc⟩ := h3 i (by omega)
  exact ⟨b, off, ha, by rw [eri_take hi]; exact hc⟩
theorem SEn.at {w : World} {a : Option Addr} {n cap : Nat} {l : List Ern} (h : SEn w (.slice a n cap) l) {i : Nat} (hi : i < l.length) : ∃ b off, a = some ⟨b, off, none⟩ ∧ EnAt w b (off + i * 4) (eri l i) := by
  obtain ⟨a', cap', he, h1, h2, h3⟩ := h
  simp at he
  obtain ⟨rfl, rfl, rfl⟩ := he
  exact h3 i hi
theorem SEn.n {w : World} {a : Option Addr} {n cap : Nat} {l : List Ern} (h : SEn w (.slice a n cap) l) : n = l.length := by
  obtain ⟨a', cap', he, _⟩ := h
  simp at he
  exact he.2.1
def OwnEn (w : World) (B : Nat) (v : Value) (l : List Ern) : Prop := w.ownsRow B 72 4 v l.length (l.flatMap enCells)
theorem OwnEn_nil (w : World) (B : Nat) : OwnEn w B (.slice none 0 0) [] := World.ownsRow_nil _ _ _ _
theorem OwnEn.below {w w' : World} {B : Nat} {v : Value} {l : List Ern} (h : OwnEn w B v l) (hb : Below w.heap.size w w') : OwnEn w' B v l := owns_below h hb
theorem OwnEn.alloc {w : World} {B : Nat} {v : Value} {l : List Ern} (h : OwnEn w B v l) (o : Obj) : OwnEn (w.alloc o) B v l := World.ownsRow.alloc h o
theorem OwnEn.mono {w : World} {B B' : Nat} {v : Value} {l : List Ern} (h : OwnEn w B v l) (hb : B' ≤ B) : OwnEn w B' v l := owns_mono h hb
theorem OwnEn.lt {w : World} {B : Nat} {v : Value} {l : List Ern} (h : OwnEn w B v l) (k : Nat) (hk : v.ownBlock = some k) : B ≤ k ∧ k < w.heap.size := World.ownsRow.lt h k hk
theorem OwnEn.at {w : World} {B g n cap : Nat} {l : List Ern} (h : OwnEn w B (.slice (some ⟨g, 0, none⟩) n cap) l) {i : Nat} (hi : i < l.length) : EnAt w g (i * 4) (eri l i) := by
  have h0 : w.ownsRow B 72 4 (.slice (some ⟨g, 0, none⟩) n cap) l.length (l.flatMap enCells) := h
  rcases own_flat_form h0 with ⟨hn, _⟩ | ⟨g', cap', he, _, _, _, _, hc⟩
  · cases hn
  · simp at he
    obtain ⟨rfl, _, _⟩ := he
    have key : ∀ j, j < 4 → w.cell? ⟨g, i * 4 + j, none⟩ = (enCells (eri l i))[j]? := fun j hj => by
      rw [hc (i * 4 + j) (by omega), flat_get enCells enCells_len l i j hi hj, eri_lt hi]
    exact ⟨key 0 (by omega), key 1 (by omega), key 2 (by omega), key 3 (by omega)⟩
theorem OwnEn.s {w : World} {B : Nat} {v : Value} {l : List Ern} (h : OwnEn w B v l) : SEn w v l := by
  rcases own_flat_form h with ⟨rfl, rfl⟩ | ⟨g, cap, rfl, _, _, hn, hm, _⟩
  · exact SEn_nil w
  · exact ⟨_, cap, rfl, hn, hm, fun i hi => ⟨g, 0, rfl, by rw [Nat.zero_add]; exact OwnEn.at h hi⟩⟩

/-! Nd -/
def nnCells (x : Nd) : List Value := [.int .i64 x.kind, .string (bs x.block), .string (bs x.on)]
theorem nnCells_len (x : Nd) : (nnCells x).length = 3 := rfl
theorem mem_ndi {l : List Nd} {x : Nd} (h : x ∈ l) : ∃ k, k < l.length ∧ ndi l k = x := by
  obtain ⟨k, hk, rfl⟩ := List.mem_iff_getElem.1 h; exact ⟨k, hk, ndi_lt hk⟩
theorem take_ndi {l : List Nd} {k : Nat} (h : k < l.length) : l.take (k + 1) = l.take k ++ [ndi l k] := by
  rw [List.take_succ_eq_append_getElem h, ndi_lt h]
theorem ndi_take {l : List Nd} {k n : Nat} (h : k < n) : ndi (l.take n) k = ndi l k := by
  simp [ndi, List.getElem?_take, h]
structure NnAt (w : World) (b off : Nat) (x : Nd) : Prop where
  c0 : w.cell? ⟨b, off, none⟩ = some (.int .i64 x.kind)
  c1 : w.cell? ⟨b, off + 1, none⟩ = some (.string (bs x.block))
  c2 : w.cell? ⟨b, off + 2, none⟩ = some (.string (bs x.on))
theorem NnAt.keep {w w' : World} {b off : Nat} {x : Nd} (h : NnAt w b off x) (hb : Below w.heap.size w w') : NnAt w' b off x := ⟨cell_keep hb h.c0, cell_keep hb h.c1, cell_keep hb h.c2⟩
/-- a slice that reads as such a list -/
def SNn (w : World) (v : Value) (l : List Nd) : Prop :=
  ∃ a cap, v = .slice a l.length cap ∧ l.length ≤ cap ∧ cap ≤ maxLen ∧ ∀ i, i < l.length → ∃ b off, a = some ⟨b, off, none⟩ ∧ NnAt w b (off + i * 3) (ndi l i)
theorem SNn.keep {w w' : World} {v : Value} {l : List Nd} (h : SNn w v l) (hb : Below w.heap.size w w') : SNn w' v l := by
  obtain ⟨a, cap, rfl, h1, h2, h3⟩ := h
  exact ⟨a, cap, rfl, h1, h2, fun i hi => by obtain ⟨b, off, ha, hc⟩ := h3 i hi; exact ⟨b, off, ha, hc.keep hb⟩⟩
theorem SNn.len {w : World} {v : Value} {l : List Nd} (h : SNn w v l) : l.length ≤ maxLen := by obtain ⟨a, cap, _, h1, h2, _⟩ := h; omega
theorem SNn_nil (w : World) : SNn w (.slice none 0 0) [] := ⟨none, 0, rfl, Nat.le_refl _, Nat.zero_le _, fun i hi => by simp at hi⟩
theorem SNn.form {w : World} {v : Value} {l : List Nd} (h : SNn w v l) (hl : 1 ≤ l.length) : ∃ b off cap, v = .slice (some ⟨b, off, none⟩) l.length cap ∧ l.length ≤ cap ∧ cap ≤ maxLen ∧ b < w.heap.size ∧ ∀ i, i < l.length → NnAt w b (off + i * 3) (ndi l i) := by
  obtain ⟨a, cap, rfl, h1, h2, h3⟩ := h
  obtain ⟨b, off, rfl, hc⟩ := h3 0 (by omega)
  refine ⟨b, off, cap, rfl, h1, h2, World.block_lt_of_cell? w _ hc.c0, fun i hi => ?_⟩
  obtain ⟨b', off', ha, hc'⟩ := h3 i hi
  have ha := Option.some.inj ha
  simp only [Addr.mk.injEq] at ha
  obtain ⟨rfl, rfl, _⟩ := ha
  exact hc'
theorem SNn.take {w : World} {a : Option Addr} {n cap : Nat} {l : List Nd} (h : SNn w (.slice a n cap) l) (k : Nat) (hk : k ≤ l.length) : SNn w (.slice a k cap) (l.take k) := by
  obtain ⟨a', cap', he, h1, h2, h3⟩ := h
  simp at he
  obtain ⟨rfl, rfl, rfl⟩ := he
  have hl : (l.take k).length = k := by simp; omega
  refine ⟨a, cap, by rw [hl], by omega, h2, fun i hi => ?_⟩
  rw [hl] at hi
  obtain ⟨b, off, ha, hc⟩ := h3 i (by omega)
  exact ⟨b, off, ha, by rw [ndi_take hi]; exact hc⟩
theorem SNn.at {w : World} {a : Option Addr} {n cap : Nat} {l : List Nd} (h : SNn w (.slice a n cap) l) {i : Nat} (hi : i < l.length) : ∃ b off, a = some ⟨b, off, none⟩ ∧ NnAt w b (off + i * 3) (ndi l i) := by
  obtain ⟨a', cap', he, h1, h2, h3⟩ := h
  simp at he
  obtain ⟨rfl, rfl, rfl⟩ := he
  exact h3 i hi
theorem SNn.n {w : World} {a : Option Addr} {n cap : Nat} {l : List Nd} (h : SNn w (.slice a n cap) l) : n = l.length := by
  obtain ⟨a', cap', he, _⟩ := h
  simp at he
  exact he.2.1
def OwnNn (w : World) (B : Nat) (v : Value) (l : List Nd) : Prop := w.ownsRow B 104 3 v l.length (l.flatMap nnCells)
theorem OwnNn_nil (w : World) (B : Nat) : OwnNn w B (.slice none 0 0) [] := World.ownsRow_nil _ _ _ _
theorem OwnNn.below {w w' : World} {B : Nat} {v : Value} {l : List Nd} (h : OwnNn w B v l) (hb : Below w.heap.size w w') : OwnNn w' B v l := owns_below h hb
theorem OwnNn.alloc {w : World} {B : Nat} {v : Value} {l : List Nd} (h : OwnNn w B v l) (o : Obj) : OwnNn (w.alloc o) B v l := World.ownsRow.alloc h o
theorem OwnNn.mono {w : World} {B B' : Nat} {v : Value} {l : List Nd} (h : OwnNn w B v l) (hb : B' ≤ B) : OwnNn w B' v l := owns_mono h hb
theorem OwnNn.lt {w : World} {B : Nat} {v : Value} {l : List Nd} (h : OwnNn w B v l) (k : Nat) (hk : v.ownBlock = some k) : B ≤ k ∧ k < w.heap.size := World.ownsRow.lt h k hk
theorem OwnNn.at {w : World} {B g n cap : Nat} {l : List Nd} (h : OwnNn w B (.slice (some ⟨g, 0, none⟩) n cap) l) {i : Nat} (hi : i < l.length) : NnAt w g (i * 3) (ndi l i) := by
  have h0 : w.ownsRow B 104 3 (.slice (some ⟨g, 0, none⟩) n cap) l.length (l.flatMap nnCells) := h
  rcases own_flat_form h0 with ⟨hn, _⟩ | ⟨g', cap', he, _, _, _, _, hc⟩
  · cases hn
  · simp at he
    obtain ⟨rfl, _, _⟩ := he
    have key : ∀ j, j < 3 → w.cell? ⟨g, i * 3 + j, none⟩ = (nnCells (ndi l i))[j]? := fun j hj => by
      rw [hc (i * 3 + j) (by omega), flat_get nnCells nnCells_len l i j hi hj, ndi_lt hi]
    exact ⟨key 0 (by omega), key 1 (by omega), key 2 (by omega)⟩
theorem OwnNn.s {w : World} {B : Nat} {v : Value} {l : List Nd} (h : OwnNn w B v l) : SNn w v l := by
  rcases own_flat_form h with ⟨rfl, rfl⟩ | ⟨g, cap, rfl, _, _, hn, hm, _⟩
  · exact SNn_nil w
  · exact ⟨_, cap, rfl, hn, hm, fun i hi => ⟨g, 0, rfl, by rw [Nat.zero_add]; exact OwnNn.at h hi⟩⟩

/-! Nod -/
def noCells (x : Nod) : List Value := [.string (bs x.id), .int .i64 x.kind, .string (bs x.parent)]
theorem noCells_len (x : Nod) : (noCells x).length = 3 := rfl
theorem noi_lt {l : List Nod} {k : Nat} (h : k < l.length) : noi l k = l[k] := by simp [noi, h]
theorem noi_mem {l : List Nod} {k : Nat} (h : k < l.length) : noi l k ∈ l := by rw [noi_lt h]; exact List.getElem_mem h
theorem mem_noi {l : List Nod} {x : Nod} (h : x ∈ l) : ∃ k, k < l.length ∧ noi l k = x := by
  obtain ⟨k, hk, rfl⟩ := List.mem_iff_getElem.1 h; exact ⟨k, hk, noi_lt hk⟩
theorem take_noi {l : List Nod} {k : Nat} (h : k < l.length) : l.take (k + 1) = l.take k ++ [noi l k] := by
  rw [List.take_succ_eq_append_getElem h, noi_lt h]
theorem noi_take {l : List Nod} {k n : Nat} (h : k < n) : noi (l.take n) k = noi l k := by
  simp [noi, List.getElem?_take, h]
structure NoAt (w : World) (b off : Nat) (x : Nod) : Prop where
  c0 : w.cell? ⟨b, off, none⟩ = some (.string (bs x.id))
  c1 : w.cell? ⟨b, off + 1, none⟩ = some (.int .i64 x.kind)
  c2 : w.cell? ⟨b, off + 2, none⟩ = some (.string (bs x.parent))
theorem NoAt.keep {w w' : World} {b off : Nat} {x : Nod} (h : NoAt w b off x) (hb : Below w.heap.size w w') : NoAt w' b off x := ⟨cell_keep hb h.c0, cell_keep hb h.c1, cell_keep hb h.c2⟩
/-- a slice that reads as such a list -/
def SNo (w : World) (v : Value) (l : List Nod) : Prop :=
  ∃ a cap, v = .slice a l.length cap ∧ l.length ≤ cap ∧ cap ≤ maxLen ∧ ∀ i, i < l.length → ∃ b off, a = some ⟨b, off, none⟩ ∧ NoAt w b (off + i * 3) (noi l i)
theorem SNo.keep {w w' : World} {v : Value} {l : List Nod} (h : SNo w v l) (hb : Below w.heap.size w w') : SNo w' v l := by
  obtain ⟨a, cap, rfl, h1, h2, h3⟩ := h
  exact ⟨a, cap, rfl, h1, h2, fun i hi => by obtain ⟨b, off, ha, hc⟩ := h3 i hi; exact ⟨b, off, ha, hc.keep hb⟩⟩
theorem SNo.len {w : World} {v : Value} {l : List Nod} (h : SNo w v l) : l.length ≤ maxLen := by obtain ⟨a, cap, _, h1, h2, _⟩ := h; omega
theorem SNo_nil (w : World) : SNo w (.slice none 0 0) [] := ⟨none, 0, rfl, Nat.le_refl _, Nat.zero_le _, fun i hi => by simp at hi⟩
theorem SNo.form {w : World} {v : Value} {l : List Nod} (h : SNo w v l) (hl : 1 ≤ l.length) : ∃ b off cap, v = .slice (some ⟨b, off, none⟩) l.length cap ∧ l.length ≤ cap ∧ cap ≤ maxLen ∧ b < w.heap.size ∧ ∀ i, i < l.length → NoAt w b (off + i * 3) (noi l i) := by
  obtain ⟨a, cap, rfl, h1, h2, h3⟩ := h
  obtain ⟨b, off, rfl, hc⟩ := h3 0 (by omega)
  refine ⟨b, off, cap, rfl, h1, h2, World.block_lt_of_cell? w _ hc.c0, fun i hi => ?_⟩
  obtain ⟨b', off', ha, hc'⟩ := h3 i hi
  have ha := Option.some.inj ha
  simp only [Addr.mk.injEq] at ha
  obtain ⟨rfl, rfl, _⟩ := ha
  exact hc'
theorem SNo.take {w : World} {a : Option Addr} {n cap : Nat} {l : List Nod} (h : SNo w (.slice a n cap) l) (k : Nat) (hk : k ≤ l.length) : SNo w (.slice a k cap) (l.take k) := by
  obtain ⟨a', cap', he, h1, h2, h3⟩ := h
  simp at he
  obtain ⟨rfl, rfl, rfl⟩ := he
  have hl : (l.take k).length = k := by simp; omega
  refine ⟨a, cap, by rw [hl], by omega, h2, fun i hi => ?_⟩
  rw [hl] at hi
  obtain ⟨b, off, ha, hc⟩ := h3 i (by omega)
  exact ⟨b, off, ha, by rw [noi_take hi]; exact hc⟩
theorem SNo.at {w : World} {a : Option Addr} {n cap : Nat} {l : List Nod} (h : SNo w (.slice a n cap) l) {i : Nat} (hi : i < l.length) : ∃ b off, a = some ⟨b, off, none⟩ ∧ NoAt w b (off + i * 3) (noi l i) := by
  obtain ⟨a', cap', he, h1, h2, h3⟩ := h
  simp at he
  obtain ⟨rfl, rfl, rfl⟩ := he
  exact h3 i hi
theorem SNo.n {w : World} {a : Option Addr} {n cap : Nat} {l : List Nod} (h : SNo w (.slice a n cap) l) : n = l.length := by
  obtain ⟨a', cap', he, _⟩ := h
  simp at he
  exact he.2.1
def OwnNo (w : World) (B : Nat) (v : Value) (l : List Nod) : Prop := w.ownsRow B 107 3 v l.length (l.flatMap noCells)
theorem OwnNo_nil (w : World) (B : Nat) : OwnNo w B (.slice none 0 0) [] := World.ownsRow_nil _ _ _ _
theorem OwnNo.below {w w' : World} {B : Nat} {v : Value} {l : List Nod} (h : OwnNo w B v l) (hb : Below w.heap.size w w') : OwnNo w' B v l := owns_below h hb
theorem OwnNo.alloc {w : World} {B : Nat} {v : Value} {l : List Nod} (h : OwnNo w B v l) (o : Obj) : OwnNo (w.alloc o) B v l := World.ownsRow.alloc h o
theorem OwnNo.mono {w : World} {B B' : Nat} {v : Value} {l : List Nod} (h : OwnNo w B v l) (hb : B' ≤ B) : OwnNo w B' v l := owns_mono h hb
theorem OwnNo.lt {w : World} {B : Nat} {v : Value} {l : List Nod} (h : OwnNo w B v l) (k : Nat) (hk : v.ownBlock = some k) : B ≤ k ∧ k < w.heap.size := World.ownsRow.lt h k hk
theorem OwnNo.at {w : World} {B g n cap : Nat} {l : List Nod} (h : OwnNo w B (.slice (some ⟨g, 0, none⟩) n cap) l) {i : Nat} (hi : i < l.length) : NoAt w g (i * 3) (noi l i) := by
  have h0 : w.ownsRow B 107 3 (.slice (some ⟨g, 0, none⟩) n cap) l.length (l.flatMap noCells) := h
  rcases own_flat_form h0 with ⟨hn, _⟩ | ⟨g', cap', he, _, _, _, _, hc⟩
  · cases hn
  · simp at he
    obtain ⟨rfl, _, _⟩ := he
    have key : ∀ j, j < 3 → w.cell? ⟨g, i * 3 + j, none⟩ = (noCells (noi l i))[j]? := fun j hj => by
      rw [hc (i * 3 + j) (by omega), flat_get noCells noCells_len l i j hi hj, noi_lt hi]
    exact ⟨key 0 (by omega), key 1 (by omega), key 2 (by omega)⟩
theorem OwnNo.s {w : World} {B : Nat} {v : Value} {l : List Nod} (h : OwnNo w B v l) : SNo w v l := by
  rcases own_flat_form h with ⟨rfl, rfl⟩ | ⟨g, cap, rfl, _, _, hn, hm, _⟩
  · exact SNo_nil w
  · exact ⟨_, cap, rfl, hn, hm, fun i hi => ⟨g, 0, rfl, by rw [Nat.zero_add]; exact OwnNo.at h hi⟩⟩

/-! (Nat × Nat) -/
def egCells (x : (Nat × Nat)) : List Value := [.int .i64 x.1, .int .i64 x.2]
theorem egCells_len (x : (Nat × Nat)) : (egCells x).length = 2 := rfl
theorem egi_lt {l : List (Nat × Nat)} {k : Nat} (h : k < l.length) : egi l k = l[k] := by simp [egi, h]
theorem egi_mem {l : List (Nat × Nat)} {k : Nat} (h : k < l.length) : egi l k ∈ l := by rw [egi_lt h]; exact List.getElem_mem h
theorem mem_egi {l : List (Nat × Nat)} {x : (Nat × Nat)} (h : x ∈ l) : ∃ k, k < l.length ∧ egi l k = x := by
  obtain ⟨k, hk, rfl⟩ := List.mem_iff_getElem.1 h; exact ⟨k, hk, egi_lt hk⟩
theorem take_egi {l : List (Nat × Nat)} {k : Nat} (h : k < l.length) : l.take (k + 1) = l.take k ++ [egi l k] := by
  rw [List.take_succ_eq_append_getElem h, egi_lt h]
theorem egi_take {l : List (Nat × Nat)} {k n : Nat} (h : k < n) : egi (l.take n) k = egi l k := by
  simp [egi, List.getElem?_take, h]
structure EgAt (w : World) (b off : Nat) (x : (Nat × Nat)) : Prop where
  c0 : w.cell? ⟨b, off, none⟩ = some (.int .i64 x.1)
  c1 : w.cell? ⟨b, off + 1, none⟩ = some (.int .i64 x.2)
theorem EgAt.keep {w w' : World} {b off : Nat} {x : (Nat × Nat)} (h : EgAt w b off x) (hb : Below w.heap.size w w') : EgAt w' b off x := ⟨cell_keep hb h.c0, cell_keep hb h.c1⟩
/-- a slice that reads as such a list -/
def SEg (w : World) (v : Value) (l : List (Nat × Nat)) : Prop :=
  ∃ a cap, v = .slice a l.length cap ∧ l.length ≤ cap ∧ cap ≤ maxLen ∧ ∀ i, i < l.length → ∃ b off, a = some ⟨b, off, none⟩ ∧ EgAt w b (off + i * 2) (egi l i)
theorem SEg.keep {w w' : World} {v : Value} {l : List (Nat × Nat)} (h : SEg w v l) (hb : Below w.heap.size w w') : SEg w' v l := by
  obtain ⟨a, cap, rfl, h1, h2, h3⟩ := h
  exact ⟨a, cap, rfl, h1, h2, fun i hi => by obtain ⟨b, off, ha, hc⟩ := h3 i hi; exact ⟨b, off, ha, hc.keep hb⟩⟩
theorem SEg.len {w : World} {v : Value} {l : List (Nat × Nat)} (h : SEg w v l) : l.length ≤ maxLen := by obtain ⟨a, cap, _, h1, h2, _⟩ := h; omega
theorem SEg_nil (w : World) : SEg w (.slice none 0 0) [] := ⟨none, 0, rfl, Nat.le_refl _, Nat.zero_le _, fun i hi => by simp at hi⟩
theorem SEg.form {w : World} {v : Value} {l : List (Nat × Nat)} (h : SEg w v l) (hl : 1 ≤ l.length) : ∃ b off cap, v = .slice (some ⟨b, off, none⟩) l.length cap ∧ l.length ≤ cap ∧ cap ≤ maxLen ∧ b < w.heap.size ∧ ∀ i, i < l.length → EgAt w b (off + i * 2) (egi l i) := by
  obtain ⟨a, cap, rfl, h1, h2, h3⟩ := h
  obtain ⟨b, off, rfl, hc⟩ := h3 0 (by omega)
  refine ⟨b, off, cap, rfl, h1, h2, World.block_lt_of_cell? w _ hc.c0, fun i hi => ?_⟩
  obtain ⟨b', off', ha, hc'⟩ := h3 i hi
  have ha := Option.some.inj ha
  simp only [Addr.mk.injEq] at ha
  obtain ⟨rfl, rfl, _⟩ := ha
  exact hc'
theorem SEg.take {w : World} {a : Option Addr} {n cap : Nat} {l : List (Nat × Nat)} (h : SEg w (.slice a n cap) l) (k : Nat) (hk : k ≤ l.length) : SEg w (.slice a k cap) (l.take k) := by
  obtain ⟨a', cap', he, h1, h2, h3⟩ := h
  simp at he
  obtain ⟨rfl, rfl, rfl⟩ := he
  have hl : (l.take k).length = k := by simp; omega
  refine ⟨a, cap, by rw [hl], by omega, h2, fun i hi => ?_⟩
  rw [hl] at hi
  obtain ⟨b, off, ha, hc⟩ := h3 i (by omega)
  exact ⟨b, off, ha, by rw [egi_take hi]; exact hc⟩
theorem SEg.at {w : World} {a : Option Addr} {n cap : Nat} {l : List (Nat × Nat)} (h : SEg w (.slice a n cap) l) {i : Nat} (hi : i < l.length) : ∃ b off, a = some ⟨b, off, none⟩ ∧ EgAt w b (off + i * 2) (egi l i) := by
  obtain ⟨a', cap', he, h1, h2, h3⟩ := h
  simp at he
  obtain ⟨rfl, rfl, rfl⟩ := he
  exact h3 i hi
theorem SEg.n {w : World} {a : Option Addr} {n cap : Nat} {l : List (Nat × Nat)} (h : SEg w (.slice a n cap) l) : n = l.length := by
  obtain ⟨a', cap', he, _⟩ := h
  simp at he
  exact he.2.1
def OwnEg (w : World) (B : Nat) (v : Value) (l : List (Nat × Nat)) : Prop := w.ownsRow B 86 2 v l.length (l.flatMap egCells)
theorem OwnEg_nil (w : World) (B : Nat) : OwnEg w B (.slice none 0 0) [] := World.ownsRow_nil _ _ _ _
theorem OwnEg.below {w w' : World} {B : Nat} {v : Value} {l : List (Nat × Nat)} (h : OwnEg w B v l) (hb : Below w.heap.size w w') : OwnEg w' B v l := owns_below h hb
theorem OwnEg.alloc {w : World} {B : Nat} {v : Value} {l : List (Nat × Nat)} (h : OwnEg w B v l) (o : Obj) : OwnEg (w.alloc o) B v l := World.ownsRow.alloc h o
theorem OwnEg.mono {w : World} {B B' : Nat} {v : Value} {l : List (Nat × Nat)} (h : OwnEg w B v l) (hb : B' ≤ B) : OwnEg w B' v l := owns_mono h hb
theorem OwnEg.lt {w : World} {B : Nat} {v : Value} {l : List (Nat × Nat)} (h : OwnEg w B v l) (k : Nat) (hk : v.ownBlock = some k) : B ≤ k ∧ k < w.heap.size := World.ownsRow.lt h k hk
theorem OwnEg.at {w : World} {B g n cap : Nat} {l : List (Nat × Nat)} (h : OwnEg w B (.slice (some ⟨g, 0, none⟩) n cap) l) {i : Nat} (hi : i < l.length) : EgAt w g (i * 2) (egi l i) := by
  have h0 : w.ownsRow B 86 2 (.slice (some ⟨g, 0, none⟩) n cap) l.length (l.flatMap egCells) := h
  rcases own_flat_form h0 with ⟨hn, _⟩ | ⟨g', cap', he, _, _, _, _, hc⟩
  · cases hn
  · simp at he
    obtain ⟨rfl, _, _⟩ := he
    have key : ∀ j, j < 2 → w.cell? ⟨g, i * 2 + j, none⟩ = (egCells (egi l i))[j]? := fun j hj => by
      rw [hc (i * 2 + j) (by omega), flat_get egCells egCells_len l i j hi hj, egi_lt hi]
    exact ⟨key 0 (by omega), key 1 (by omega)⟩
theorem OwnEg.s {w : World} {B : Nat} {v : Value} {l : List (Nat × Nat)} (h : OwnEg w B v l) : SEg w v l := by
  rcases own_flat_form h with ⟨rfl, rfl⟩ | ⟨g, cap, rfl, _, _, hn, hm, _⟩
  · exact SEg_nil w
  · exact ⟨_, cap, rfl, hn, hm, fun i hi => ⟨g, 0, rfl, by rw [Nat.zero_add]; exact OwnEg.at h hi⟩⟩

end Go.Proofs.YtfpnjbomlmhlpaaGreat

/- Contracts: names, IsId, Split, Join of ident. -/
namespace Go.Proofs.YtfpnjbomlmhlpaaGreat
open Go.RowKit

theorem bl_length (ss : List ByteArray) : (bl ss).length = ss.length := by simp [bl]
theorem bl_take (ss : List ByteArray) (k : Nat) : bl (ss.take k) = (bl ss).take k := by simp [bl, List.map_take]
def sumZ (ss : List ByteArray) (k : Nat) : Nat := ((ss.take k).map ByteArray.size).sum
theorem sumZ_succ {ss : List ByteArray} {k : Nat} (h : k < ss.length) : sumZ ss (k + 1) = sumZ ss k + (zi ss k).size := by
  unfold sumZ; rw [take_succ_zi h]; simp
theorem sumZ_le {ss : List ByteArray} {k : Nat} (h : ∀ j, j < k → nameB (zi ss j).data.toList = true) (hk : k ≤ ss.length) : sumZ ss k ≤ k * 16 := by
  induction k with
  | zero => simp [sumZ]
  | succ k ih =>
    rw [sumZ_succ (by omega)]
    have := ih (fun j hj => h j (by omega)) (by omega)
    have h2 := nameB_len (h k (by omega))
    rw [size_data] at h2
    omega
theorem sumZ_join {ss : List ByteArray} (h : 0 < ss.length) : (joinL (bl ss)).length + 1 = sumZ ss ss.length + ss.length := by
  have hne : bl ss ≠ [] := by intro e; have := congrArg List.length e; rw [bl_length] at this; simp only [List.length_nil] at this; omega
  rw [joinL_length hne, bl_length]
  unfold sumZ bl
  rw [List.take_length, List.map_map]
  have e : ss.map (List.length ∘ fun s : ByteArray => s.data.toList) = ss.map ByteArray.size := List.map_congr_left fun s _ => size_data s
  rw [e]
theorem all_names {ss : List ByteArray} (h : ∀ j, j < ss.length → nameB (zi ss j).data.toList = true) : (bl ss).all nameB = true := by
  rw [List.all_eq_true]
  intro x hx
  simp only [bl, List.mem_map] at hx
  obtain ⟨s, hs, rfl⟩ := hx
  obtain ⟨k, hk, rfl⟩ := mem_zi hs
  exact h k hk
theorem namesB_no {ss : List ByteArray} {j : Nat} (hj : j < ss.length) (h : nameB (zi ss j).data.toList = false) : namesB (bl ss) = false := by
  have : (bl ss).all nameB = false := by
    rw [List.all_eq_false]
    exact ⟨_, List.mem_map_of_mem (zi_mem hj), by rw [h]; simp⟩
  unfold namesB
  rw [this]; simp
theorem namesB_yes {ss : List ByteArray} (h : ∀ j, j < ss.length → nameB (zi ss j).data.toList = true) : namesB (bl ss) = (decide ((1 : Int) ≤ ss.length) && decide ((ss.length : Int) ≤ 8) && decide ((ss.length : Int) - 1 + sumZ ss ss.length ≤ 64)) := by
  unfold namesB
  rw [all_names h, bl_length]
  rw [Bool.eq_iff_iff]
  simp only [Bool.and_eq_true, decide_eq_true_eq, Bool.and_true]
  by_cases h0 : 0 < ss.length
  · have := sumZ_join h0; omega
  · omega

end Go.Proofs.YtfpnjbomlmhlpaaGreat

/- Check digits: sealing, opening, and what is detected; in plain Lean. -/
namespace Go.Proofs.YtfpnjbomlmhlpaaGreat

def modR (l : List UInt8) : Nat := l.foldl (fun r c => (256 * r + c.toNat) % 97) 0
def valR (l : List UInt8) : Nat := l.foldl (fun r c => 256 * r + c.toNat) 0
def chkN (l : List UInt8) : Nat := 98 - 100 * modR l % 97
def chkL (l : List UInt8) : List UInt8 := [UInt8.ofNat (48 + chkN l / 10), UInt8.ofNat (48 + chkN l % 10)]
def sealL (l : List UInt8) : List UInt8 := l ++ 47 :: chkL l
/-- the error of opening -/
def openE (l : List UInt8) : Int :=
  if l.length < 4 then 3 else
  if idB (l.take (l.length - 3)) = false ∨ l.getD (l.length - 3) 0 ≠ 47 ∨ digC (l.getD (l.length - 2) 0) = false ∨ digC (l.getD (l.length - 1) 0) = false then 5 else
  if l.drop (l.length - 2) = chkL (l.take (l.length - 3)) then 0 else 16
def openL (l : List UInt8) : List UInt8 := if openE l = 0 then l.take (l.length - 3) else []

theorem modR_snoc (l : List UInt8) (c : UInt8) : modR (l ++ [c]) = (256 * modR l + c.toNat) % 97 := by simp [modR]
theorem modR_lt (l : List UInt8) : modR l < 97 := by
  rcases List.eq_nil_or_concat l with rfl | ⟨x, c, rfl⟩
  · decide
  · rw [List.concat_eq_append, modR_snoc]; omega
theorem fold_mod (l : List UInt8) : ∀ r r' : Nat, r % 97 = r' % 97 → (l.foldl (fun r c => (256 * r + c.toNat) % 97) r) % 97 = (l.foldl (fun r c => 256 * r + c.toNat) r') % 97 := by
  induction l with
  | nil => intro r r' h; exact h
  | cons c l ih => intro r r' h; exact ih _ _ (by dsimp only; omega)
theorem modR_val (l : List UInt8) : modR l = valR l % 97 := by
  have := fold_mod l 0 0 rfl
  have h := modR_lt l
  unfold modR valR at *
  omega
theorem chkN_bd (l : List UInt8) : 2 ≤ chkN l ∧ chkN l ≤ 98 := by unfold chkN; omega
theorem chk_digits {n : Nat} (h : n ≤ 98) : digC (UInt8.ofNat (48 + n / 10)) = true ∧ digC (UInt8.ofNat (48 + n % 10)) = true ∧ (UInt8.ofNat (48 + n / 10)).toNat = 48 + n / 10 ∧ (UInt8.ofNat (48 + n % 10)).toNat = 48 + n % 10 := by
  have e1 : (UInt8.ofNat (48 + n / 10)).toNat = 48 + n / 10 := by rw [UInt8.toNat_ofNat']; omega
  have e2 : (UInt8.ofNat (48 + n % 10)).toNat = 48 + n % 10 := by rw [UInt8.toNat_ofNat']; omega
  refine ⟨?_, ?_, e1, e2⟩
  · unfold digC; rw [e1]; simp; omega
  · unfold digC; rw [e2]; simp; omega
theorem chkL_inj {a b : List UInt8} (h : chkL a = chkL b) : modR a = modR b := by
  unfold chkL at h
  simp only [List.cons.injEq, and_true] at h
  have ha := chk_digits (chkN_bd a).2
  have hb := chk_digits (chkN_bd b).2
  have h1 := congrArg UInt8.toNat h.1
  have h2 := congrArg UInt8.toNat h.2
  rw [ha.2.2.1, hb.2.2.1] at h1
  rw [ha.2.2.2, hb.2.2.2] at h2
  have hn : chkN a = chkN b := by omega
  have l1 := modR_lt a
  have l2 := modR_lt b
  unfold chkN at hn
  omega
theorem chkL_length (l) : (chkL l).length = 2 := rfl
theorem sealL_length (l) : (sealL l).length = l.length + 3 := by simp [sealL, chkL_length]
theorem seal_take (l) : (sealL l).take l.length = l := by unfold sealL; rw [List.take_left]
theorem seal_parts (l : List UInt8) : (sealL l).getD l.length 0 = 47 ∧ digC ((sealL l).getD (l.length + 1) 0) = true ∧ digC ((sealL l).getD (l.length + 2) 0) = true ∧ (sealL l).drop (l.length + 1) = chkL l := by
  have h := chk_digits (chkN_bd l).2
  unfold sealL
  refine ⟨by simp, ?_, ?_, by rw [List.drop_append]; simp⟩
  · rw [List.getD_eq_getElem?_getD, List.getElem?_append_right (by omega), show l.length + 1 - l.length = 1 by omega]; exact h.1
  · rw [List.getD_eq_getElem?_getD, List.getElem?_append_right (by omega), show l.length + 2 - l.length = 2 by omega]; exact h.2.1
theorem idB_pos {l : List UInt8} (h : idB l = true) : 1 ≤ l.length ∧ l.length ≤ 64 := by
  have h' := h
  unfold idB at h
  simp only [Bool.and_eq_true, decide_eq_true_eq] at h
  refine ⟨?_, h.1.1⟩
  cases l with
  | nil => exact absurd h' (by decide)
  | cons c r => simp
/-- what is sealed is opened -/
theorem open_seal {l : List UInt8} (h : idB l = true) : openE (sealL l) = 0 ∧ openL (sealL l) = l := by
  have hp := idB_pos h
  have hs := seal_parts l
  have hl := sealL_length l
  have e : openE (sealL l) = 0 := by
    unfold openE
    rw [if_neg (by omega), hl, show l.length + 3 - 3 = l.length by omega, show l.length + 3 - 2 = l.length + 1 by omega, show l.length + 3 - 1 = l.length + 2 by omega, seal_take, if_neg (by rw [h, hs.1, hs.2.1, hs.2.2.1]; simp), if_pos hs.2.2.2]
  refine ⟨e, ?_⟩
  unfold openL
  rw [if_pos e, hl, show l.length + 3 - 3 = l.length by omega, seal_take]
theorem openE_zero {l : List UInt8} (h : openE l = 0) : 4 ≤ l.length ∧ idB (l.take (l.length - 3)) = true ∧ l.getD (l.length - 3) 0 = 47 ∧ l.drop (l.length - 2) = chkL (l.take (l.length - 3)) := by
  unfold openE at h
  by_cases h1 : l.length < 4
  · rw [if_pos h1] at h; omega
  rw [if_neg h1] at h
  split at h
  · omega
  rename_i h2
  split at h
  · rename_i h3
    refine ⟨by omega, ?_, ?_, h3⟩
    · cases hb : idB (l.take (l.length - 3))
      · exact absurd (.inl hb) h2
      · rfl
    · exact Classical.byContradiction fun hn => h2 (.inr (.inl hn))
  · omega
/-- what is opened was sealed -/
theorem seal_open {l : List UInt8} (h : openE l = 0) : idB (openL l) = true ∧ sealL (openL l) = l := by
  have hz := openE_zero h
  unfold openL
  rw [if_pos h]
  refine ⟨hz.2.1, ?_⟩
  unfold sealL
  rw [← hz.2.2.2]
  have hn : l.length - 3 < l.length := by omega
  have hd : l.drop (l.length - 3) = 47 :: l.drop (l.length - 2) := by
    rw [List.drop_eq_getElem_cons hn, show l.length - 3 + 1 = l.length - 2 by omega]
    have := hz.2.2.1
    rw [List.getD_eq_getElem?_getD, List.getElem?_eq_getElem hn] at this
    rw [show l[l.length - 3] = 47 from this]
  rw [← hd, List.take_append_drop]

/-! detecting -/
theorem joinL_mem {ls : List (List UInt8)} {c : UInt8} (h : c ∈ joinL ls) : c = 46 ∨ ∃ x ∈ ls, c ∈ x := by
  induction ls with
  | nil => simp [joinL] at h
  | cons x xs ih =>
    cases xs with
    | nil => exact .inr ⟨x, by simp, h⟩
    | cons y ys =>
      rw [joinL_cons (by simp), List.mem_append, List.mem_cons] at h
      rcases h with h | h | h
      · exact .inr ⟨x, by simp, h⟩
      · exact .inl h
      · rcases ih h with h | ⟨z, hz, hc⟩
        · exact .inl h
        · exact .inr ⟨z, by simp at hz ⊢; exact .inr hz, hc⟩
theorem idB_byte {l : List UInt8} (h : idB l = true) {c : UInt8} (hc : c ∈ l) : 45 ≤ c.toNat ∧ c.toNat ≤ 122 := by
  unfold idB at h
  simp only [Bool.and_eq_true, List.all_eq_true] at h
  rw [← join_cut l] at hc
  rcases joinL_mem hc with rfl | ⟨x, hx, hcx⟩
  · decide
  · have hn := h.2 x hx
    unfold nameB at hn
    simp only [Bool.and_eq_true, List.all_eq_true] at hn
    have := hn.2 c hcx
    unfold okC letC digC at this
    simp only [Bool.or_eq_true, Bool.and_eq_true, decide_eq_true_eq, beq_iff_eq] at this
    rcases this with (((h | h) | h) | rfl) | rfl
    · omega
    · omega
    · omega
    · decide
    · decide
theorem fold_add (l : List UInt8) : ∀ r : Nat, l.foldl (fun r c => 256 * r + c.toNat) r = r * 256 ^ l.length + valR l := by
  induction l with
  | nil => intro r; simp [valR]
  | cons c l ih =>
    intro r
    have h0 : valR (c :: l) = l.foldl (fun r c => 256 * r + c.toNat) (256 * 0 + c.toNat) := rfl
    rw [List.foldl_cons, ih, h0, ih, List.length_cons, Nat.pow_succ]
    have e : r * (256 ^ l.length * 256) = 256 * r * 256 ^ l.length := by rw [Nat.mul_comm (256 ^ l.length) 256, ← Nat.mul_assoc, Nat.mul_comm r 256]
    rw [e, Nat.add_mul, Nat.mul_zero, Nat.zero_add]; omega
theorem valR_append (x y : List UInt8) : valR (x ++ y) = valR x * 256 ^ y.length + valR y := by
  unfold valR
  rw [List.foldl_append]; exact fold_add y _
theorem valR_cons (c : UInt8) (y : List UInt8) : valR (c :: y) = c.toNat * 256 ^ y.length + valR y := by
  have := valR_append [c] y
  simpa [valR] using this
theorem cop_pow (k : Nat) : Nat.Coprime 97 (256 ^ k) := Nat.Coprime.pow_right k (by decide)
theorem mod_cancel {a b d p : Nat} (hp : Nat.Coprime 97 p) (h : (a * p + d) % 97 = (b * p + d) % 97) : a % 97 = b % 97 := by
  have key : ∀ {a b : Nat}, a ≤ b → (a * p + d) % 97 = (b * p + d) % 97 → a % 97 = b % 97 := by
    intro a b hab h
    have h1 : 97 ∣ (b - a) * p := by
      rw [Nat.sub_mul]
      have : a * p ≤ b * p := Nat.mul_le_mul_right p hab
      omega
    have h2 := Nat.Coprime.dvd_of_dvd_mul_right hp h1
    omega
  rcases Nat.le_total a b with h1 | h1
  · exact key h1 h
  · exact (key h1 h.symm).symm
theorem replaced {x y : List UInt8} {c d : UInt8} (h1 : idB (x ++ c :: y) = true) (h2 : idB (x ++ d :: y) = true) (h : modR (x ++ c :: y) = modR (x ++ d :: y)) : c = d := by
  have b1 := idB_byte h1 (c := c) (by simp)
  have b2 := idB_byte h2 (c := d) (by simp)
  rw [modR_val, modR_val, valR_append, valR_append, valR_cons, valR_cons, List.length_cons, List.length_cons] at h
  have h' : (c.toNat * 256 ^ y.length + (valR x * 256 ^ (y.length + 1) + valR y)) % 97 = (d.toNat * 256 ^ y.length + (valR x * 256 ^ (y.length + 1) + valR y)) % 97 := by
    rw [show c.toNat * 256 ^ y.length + (valR x * 256 ^ (y.length + 1) + valR y) = valR x * 256 ^ (y.length + 1) + (c.toNat * 256 ^ y.length + valR y) by omega, h]
    congr 1; omega
  have := mod_cancel (cop_pow _) h'
  exact UInt8.toNat_inj.1 (by omega)
theorem exchanged {x y : List UInt8} {c d : UInt8} (h1 : idB (x ++ c :: d :: y) = true) (h : modR (x ++ c :: d :: y) = modR (x ++ d :: c :: y)) : c = d := by
  have b1 := idB_byte h1 (c := c) (by simp)
  have b2 := idB_byte h1 (c := d) (by simp)
  rw [modR_val, modR_val, valR_append, valR_append, valR_cons, valR_cons, valR_cons, valR_cons] at h
  simp only [List.length_cons, Nat.pow_succ] at h
  generalize hq : 256 ^ y.length = q at h
  have hc : Nat.Coprime 97 q := by rw [← hq]; exact cop_pow _
  have e : ∀ a b : Nat, a * (q * 256) + (b * q + valR y) = (a * 256 + b) * q + valR y := fun a b => by
    rw [Nat.add_mul, Nat.mul_comm q 256, ← Nat.mul_assoc]; omega
  rw [e, e] at h
  have h' : ((c.toNat * 256 + d.toNat) * q + (valR x * (q * 256 * 256) + valR y)) % 97 = ((d.toNat * 256 + c.toNat) * q + (valR x * (q * 256 * 256) + valR y)) % 97 := by
    rw [show (c.toNat * 256 + d.toNat) * q + (valR x * (q * 256 * 256) + valR y) = valR x * (q * 256 * 256) + ((c.toNat * 256 + d.toNat) * q + valR y) by omega, h]
    congr 1; omega
  have h2 := mod_cancel hc h'
  have h3 : (255 * c.toNat) % 97 = (255 * d.toNat) % 97 := by omega
  exact UInt8.toNat_inj.1 (by omega)
/-- a replaced byte is detected -/
theorem detect_one {x y : List UInt8} {c d : UInt8} (h : idB (x ++ c :: y) = true) (hne : c ≠ d) : openE ((x ++ d :: y) ++ 47 :: chkL (x ++ c :: y)) ≠ 0 := by
  intro hz
  have hz' := openE_zero hz
  have hl : ((x ++ d :: y) ++ 47 :: chkL (x ++ c :: y)).length = (x ++ d :: y).length + 3 := by rw [List.length_append, List.length_cons, chkL_length]
  rw [hl, show (x ++ d :: y).length + 3 - 3 = (x ++ d :: y).length by omega, List.take_left, show (x ++ d :: y).length + 3 - 2 = (x ++ d :: y).length + 1 by omega] at hz'
  have hd : ((x ++ d :: y) ++ 47 :: chkL (x ++ c :: y)).drop ((x ++ d :: y).length + 1) = chkL (x ++ c :: y) := by
    rw [List.drop_append, List.drop_eq_nil_of_le (by omega), show (x ++ d :: y).length + 1 - (x ++ d :: y).length = 1 by omega]; rfl
  rw [hd] at hz'
  exact hne (replaced h hz'.2.1 (chkL_inj hz'.2.2.2))
/-- two exchanged neighbours are detected -/
theorem detect_two {x y : List UInt8} {c d : UInt8} (h : idB (x ++ c :: d :: y) = true) (hne : c ≠ d) : openE ((x ++ d :: c :: y) ++ 47 :: chkL (x ++ c :: d :: y)) ≠ 0 := by
  intro hz
  have hz' := openE_zero hz
  have hl : ((x ++ d :: c :: y) ++ 47 :: chkL (x ++ c :: d :: y)).length = (x ++ d :: c :: y).length + 3 := by rw [List.length_append, List.length_cons, chkL_length]
  rw [hl, show (x ++ d :: c :: y).length + 3 - 3 = (x ++ d :: c :: y).length by omega, List.take_left, show (x ++ d :: c :: y).length + 3 - 2 = (x ++ d :: c :: y).length + 1 by omega] at hz'
  have hd : ((x ++ d :: c :: y) ++ 47 :: chkL (x ++ c :: d :: y)).drop ((x ++ d :: c :: y).length + 1) = chkL (x ++ c :: d :: y) := by
    rw [List.drop_append, List.drop_eq_nil_of_le (by omega), show (x ++ d :: c :: y).length + 1 - (x ++ d :: c :: y).length = 1 by omega]; rfl
  rw [hd] at hz'
  exact hne (exchanged h (chkL_inj hz'.2.2.2))
end Go.Proofs.YtfpnjbomlmhlpaaGreat

/- Contracts: IsId, Split, Join of ident. -/
namespace Go.Proofs.YtfpnjbomlmhlpaaGreat
open Go.RowKit

theorem cutL_le (l : List UInt8) : ∀ x ∈ cutL l, x.length ≤ l.length := by
  induction l with
  | nil => intro x hx; simp [cutL] at hx; subst hx; simp
  | cons c r ih =>
    intro x hx
    by_cases h : c = 46
    · subst h
      rw [cutL_dot, List.mem_cons] at hx
      rcases hx with rfl | hx
      · simp
      · have := ih x hx; simp; omega
    · obtain ⟨y, ys, e1, e2⟩ := cutL_other (r := r) h
      rw [e2, List.mem_cons] at hx
      rcases hx with rfl | hx
      · have := ih y (by rw [e1]; simp)
        simp; omega
      · have := ih x (by rw [e1]; simp [hx])
        simp; omega
theorem pieces_le {l : List UInt8} {ss : List ByteArray} (h : bl ss = cutL l) : ∀ x ∈ ss, x.size ≤ l.length := by
  intro x hx
  have := cutL_le l x.data.toList (by rw [← h]; exact List.mem_map_of_mem hx)
  rwa [size_data] at this
theorem idB_long {s : ByteArray} (h : 64 < s.size) : idB s.data.toList = false := by
  cases hb : idB s.data.toList
  · rfl
  · have := (idB_pos hb).2; rw [size_data] at this; omega

def SplitR (w : World) (l : List UInt8) (e : Ending) (w' : World) : Prop :=
  ∃ v ss, e = .returned (.tuple #[v, .int .i64 (if idB l = true then 0 else 6)]) ∧ SZ w' v ss ∧ bl ss = (if idB l = true then cutL l else []) ∧ Below w.heap.size w w'
theorem splitR_yes {w w' : World} {l : List UInt8} {e : Ending} {v : Value} {ss : List ByteArray} (h : idB l = true) (he : e = .returned (.tuple #[v, .int .i64 0])) (hs : SZ w' v ss) (hb : bl ss = cutL l) (hw : Below w.heap.size w w') : SplitR w l e w' :=
  ⟨v, ss, by rw [if_pos h]; exact he, hs, by rw [if_pos h]; exact hb, hw⟩
theorem splitR_no {w w' : World} {l : List UInt8} {e : Ending} (h : idB l = false) (he : e = .returned (.tuple #[.slice none 0 0, .int .i64 6])) (hw : Below w.heap.size w w') : SplitR w l e w' :=
  ⟨_, [], by rw [if_neg (by rw [h]; simp)]; exact he, SZ_nil _, by rw [if_neg (by rw [h]; simp)]; rfl, hw⟩
/-! Join -/
theorem joinL_inter (ls : List (List UInt8)) : Lib.join ls [46] = joinL ls := by
  unfold Lib.join
  induction ls with
  | nil => rfl
  | cons x xs ih =>
    cases xs with
    | nil => simp [List.intercalate, joinL]
    | cons y ys =>
      rw [joinL_cons (by simp), ← ih]
      simp [List.intercalate, List.intersperse]
def bytesV (l : List UInt8) : Value := .string ⟨l.toArray⟩
def joinV (ls : List (List UInt8)) : List UInt8 := if namesB ls = true then joinL ls else []
def JoinR (w : World) (ls : List (List UInt8)) (e : Ending) (w' : World) : Prop := e = .returned (.tuple #[bytesV (joinV ls), .int .i64 (if namesB ls = true then 0 else 6)]) ∧ Below w.heap.size w w'
theorem joinR_yes {w w' : World} {ls : List (List UInt8)} {e : Ending} (h : namesB ls = true) (he : e = .returned (.tuple #[.string ⟨(joinL ls).toArray⟩, .int .i64 0])) (hw : Below w.heap.size w w') : JoinR w ls e w' :=
  ⟨by unfold joinV bytesV; rw [if_pos h, if_pos h]; exact he, hw⟩
theorem joinR_no {w w' : World} {ls : List (List UInt8)} {e : Ending} (h : namesB ls = false) (he : e = .returned (.tuple #[.string ⟨#[]⟩, .int .i64 6])) (hw : Below w.heap.size w w') : JoinR w ls e w' :=
  ⟨by unfold joinV bytesV; rw [if_neg (by rw [h]; simp), if_neg (by rw [h]; simp)]; exact he, hw⟩
theorem namesB_len {ls : List (List UInt8)} (h : namesB ls = true) : 1 ≤ ls.length ∧ (joinL ls).length ≤ 64 := by
  unfold namesB at h
  simp only [Bool.and_eq_true, decide_eq_true_eq] at h
  exact ⟨h.1.1.1, h.2⟩
end Go.Proofs.YtfpnjbomlmhlpaaGreat

/- Contracts: parts, IsId, Split, Join, Same of the reference of ident. -/
namespace Go.Proofs.YtfpnjbomlmhlpaaGreat
open Go.RowKit

theorem extract_list (s : ByteArray) (f k : Nat) : (s.extract f k).data.toList = (s.data.toList.take k).drop f := by
  rw [Lib.extract_data]; simp [List.extract, List.drop_take]
/-- what has been cut so far -/
def Cut (l : List UInt8) (ss : List ByteArray) (f k : Nat) : Prop :=
  (k ≤ l.length ∧ f ≤ k ∧ (∀ j, f ≤ j → j < k → l.getD j 0 ≠ 46) ∧ cutL l = bl ss ++ cutL (l.drop f)) ∨ (k = l.length + 1 ∧ bl ss = cutL l)
theorem Cut.start (l : List UInt8) : Cut l [] 0 0 := .inl ⟨Nat.zero_le _, Nat.le_refl _, fun j _ h => by omega, rfl⟩
theorem mid_plain {l : List UInt8} {f k : Nat} (h : ∀ j, f ≤ j → j < k → l.getD j 0 ≠ 46) (hk : k ≤ l.length) : ∀ c ∈ (l.take k).drop f, c ≠ 46 := by
  intro c hc
  obtain ⟨i, hi, rfl⟩ := List.mem_iff_getElem.1 hc
  simp only [List.length_drop, List.length_take] at hi
  have := h (f + i) (by omega) (by omega)
  rw [List.getD_eq_getElem?_getD, List.getElem?_eq_getElem (by omega)] at this
  simpa using this
theorem Cut.skip {l : List UInt8} {ss : List ByteArray} {f k : Nat} (h : Cut l ss f k) (hk : k < l.length) (hc : l.getD k 0 ≠ 46) : Cut l ss f (k + 1) := by
  rcases h with ⟨_, h2, h3, h4⟩ | ⟨h1, _⟩
  · refine .inl ⟨by omega, by omega, fun j h5 h6 => ?_, h4⟩
    by_cases e : j = k
    · subst e; exact hc
    · exact h3 j h5 (by omega)
  · omega
theorem Cut.dot {l : List UInt8} {ss : List ByteArray} {f k : Nat} {x : ByteArray} (h : Cut l ss f k) (hk : k < l.length) (hc : l.getD k 0 = 46) (hx : x.data.toList = (l.take k).drop f) : Cut l (ss ++ [x]) (k + 1) (k + 1) := by
  rcases h with ⟨_, h2, h3, h4⟩ | ⟨h1, _⟩
  · refine .inl ⟨by omega, Nat.le_refl _, fun j h5 h6 => by omega, ?_⟩
    have e : l.drop f = (l.take k).drop f ++ 46 :: l.drop (k + 1) := by
      have e1 : l = l.take k ++ l.drop k := (List.take_append_drop k l).symm
      have e2 : l.drop k = 46 :: l.drop (k + 1) := by
        rw [List.drop_eq_getElem_cons hk]
        rw [List.getD_eq_getElem?_getD, List.getElem?_eq_getElem hk] at hc
        rw [show l[k] = 46 from hc]
      have e3 : l.drop f = (l.take k ++ l.drop k).drop f := by rw [← e1]
      rw [e3, List.drop_append_of_le_length (by rw [List.length_take]; omega), e2]
    rw [h4, e, cut_append (mid_plain h3 (by omega))]
    simp [bl, hx]
  · omega
theorem Cut.last {l : List UInt8} {ss : List ByteArray} {f : Nat} {x : ByteArray} (h : Cut l ss f l.length) (hx : x.data.toList = (l.take l.length).drop f) : Cut l (ss ++ [x]) (l.length + 1) (l.length + 1) := by
  rcases h with ⟨_, h2, h3, h4⟩ | ⟨h1, _⟩
  · refine .inr ⟨rfl, ?_⟩
    rw [List.take_length] at hx
    have hp := mid_plain h3 (Nat.le_refl _)
    rw [List.take_length] at hp
    rw [h4, cut_plain hp]
    simp [bl, hx]
  · omega
theorem Cut.done {l : List UInt8} {ss : List ByteArray} {f k : Nat} (h : Cut l ss f k) (hk : l.length < k) : bl ss = cutL l := by
  rcases h with ⟨h1, _⟩ | ⟨_, h2⟩
  · omega
  · exact h2
theorem Cut.le {l : List UInt8} {ss : List ByteArray} {f k : Nat} (h : Cut l ss f k) (hk : k ≤ l.length) : f ≤ k := by
  rcases h with ⟨_, h2, _⟩ | ⟨h1, _⟩ <;> omega
theorem wpList_app_str {ops : Array Oper} {rest : List Oper} {o : Oper} {a : Act} {Q : Exit → Act → World → Prop} {w : World} (hw : Region.wanted o (yielded ops a.tmps) = true) (s x : Operand)
    (ho : o.op = .call { callee := .builtin .append, args := #[s, x], argTypes := #[43, 43] }) (B : Nat) (v : Value) (ss : List ByteArray) (hs : a.eval s = v) (hown : OwnZ w B v ss)
    (g c : Nat) (y : ByteArray) (hx : a.eval x = .slice (some ⟨g, 0, none⟩) 1 c) (hy : w.cell? ⟨g, 0, none⟩ = some (.string y)) (hlen : ss.length ≤ 2000000) (hb : B ≤ w.heap.size)
    (h : ∀ v' w', OwnZ w' B v' (ss ++ [y]) → w.grownBy w' v.ownBlock → (v'.ownBlock = v.ownBlock ∨ v'.ownBlock = some w.heap.size) → wpList Tryz.prog ops Q rest (a.put o.dst v') w') : wpList Tryz.prog ops Q (o :: rest) a w :=
  wpList_step fun K hK => by rw [if_pos hw]; exact wp_app_str s x ho B v ss hs hown g c y hx hy hlen hb fun v' w' h1 h2 h3 => hK _ _ (h v' w' h1 h2 h3)
theorem OwnZ_alloc {w : World} {B : Nat} {v : Value} {r : List ByteArray} (h : OwnZ w B v r) (o : Obj) : OwnZ (w.alloc o) B v r := World.ownsRow.alloc h o
theorem lit_str (w : World) (y : ByteArray) : (w.alloc (.cells #[.string y] 9)).cell? ⟨w.heap.size, 0, none⟩ = some (.string y) := by simp

set_option maxHeartbeats 1000000 in
theorem rparts_any (s : ByteArray) (w : World) (hs : s.size ≤ 1100000) : Calls Tryz.prog 89 #[.string s] w fun e w' => ∃ v ss, e = .returned v ∧ bl ss = cutL s.data.toList ∧ SZ w' v ss ∧ ss.length ≤ s.size + 1 ∧ Below w.heap.size w w' := by
  have hls := size_data s
  go_enter Tryz.func89, Tryz.ntmps89
  go_wp2_with fail
  go_loopg [3, 4, 5] (s.size + 1) (fun g o f i wr => ∃ (k fr : Nat) (ss : List ByteArray), k ≤ s.size + 1 ∧ i = .int .i64 k ∧ f = .int .i64 fr ∧ g = s.size + 1 - k ∧ ss.length ≤ k ∧ Hid (Cut s.data.toList ss fr k) ∧ Hid (Below w.heap.size w wr) ∧ Hid (OwnZ wr w.heap.size o ss))
  case atStart => exact ⟨0, 0, [], Nat.zero_le _, rfl, rfl, by omega, Nat.le_refl _, Cut.start _, Below.refl _ _, OwnZ_nil _ _⟩
  case round =>
    obtain ⟨k, fr, ss, hk, rfl, rfl, rfl, hsl, hcut, hbw, hown⟩ := hrel
    have hsw := hbw.out.size
    have hlt' : ∀ g, u3.ownBlock = some g → w.heap.size ≤ g := fun g hg => (World.ownsRow.lt hown.out g hg).1
    by_cases hle : k ≤ s.size
    · have hfk := hcut.out.le (by rw [hls]; exact hle)
      have HX := Lib.hid (extract_list s fr k)
      by_cases heq : k = s.size
      · subst heq
        have b1 : ((s.size : Int) == (s.size : Int)) = true := by simp
        have HL : Hid (Cut s.data.toList (ss ++ [s.extract fr s.size]) (s.size + 1) (s.size + 1)) := by
          have := Cut.last (x := s.extract fr s.size) (by have := hcut.out; rw [← hls] at this; exact this) (by rw [hls]; exact HX.out)
          rw [hls] at this; exact this
        clear hls hcut
        go_wp2_with (at_builtin; refine wpList_app_str rfl (.tmp 22) (.tmp 27) rfl w.heap.size u3 ss rfl (OwnZ_alloc hown.out _) wr.heap.size 1 (s.extract fr s.size) rfl (lit_str _ _) (by omega) (by simp; omega) ?_)
        intro va wa hoa hga _
        have hba : Below w.heap.size w wa := (hbw.out.alloc hsw _).grown hga (by simp; omega) hlt'
        have HO := Lib.hid hoa
        have HBA := Lib.hid hba
        clear hoa hba hga
        go_wp2_with fail
        go_roundg (s.size + 1 - (s.size + 1))
        case measure => omega
        case rel => exact ⟨s.size + 1, s.size + 1, ss ++ [s.extract fr s.size], Nat.le_refl _, by go_num, by go_num, rfl, by simp; omega, HL.out, HBA.out, HO.out⟩
      · have hlt : k < s.size := by omega
        have b1 : ((k : Int) == (s.size : Int)) = false := by rw [beq_eq_false_iff_ne]; omega
        have HGB := Lib.hid (getD_byte s hlt)
        have e46 : ((s[k]'hlt).toNat : Int) = 46 ↔ s[k]'hlt = 46 := by rw [← UInt8.toNat_inj]; show _ ↔ _ = 46; omega
        by_cases hd : ((s[k]'hlt).toNat : Int) = 46
        · have b2 : (((s[k]'hlt).toNat : Int) == 46) = true := by rw [hd]; rfl
          have HL : Hid (Cut s.data.toList (ss ++ [s.extract fr k]) (k + 1) (k + 1)) := Cut.dot hcut.out (by rw [hls]; exact hlt) (by rw [HGB.out]; exact e46.1 hd) HX.out
          clear hls hcut hd e46 heq
          go_wp2_with (at_builtin; refine wpList_app_str rfl (.tmp 22) (.tmp 27) rfl w.heap.size u3 ss rfl (OwnZ_alloc hown.out _) wr.heap.size 1 (s.extract fr k) rfl (lit_str _ _) (by omega) (by simp; omega) ?_)
          intro va wa hoa hga _
          have hba : Below w.heap.size w wa := (hbw.out.alloc hsw _).grown hga (by simp; omega) hlt'
          have HO := Lib.hid hoa
          have HBA := Lib.hid hba
          clear hoa hba hga
          go_wp2_with fail
          go_roundg (s.size + 1 - (k + 1))
          case measure => omega
          case rel => exact ⟨k + 1, k + 1, ss ++ [s.extract fr k], by omega, by go_num, by go_num, rfl, by simp; omega, HL.out, HBA.out, HO.out⟩
        · have b2 : (((s[k]'hlt).toNat : Int) == 46) = false := by rw [beq_eq_false_iff_ne]; exact hd
          have HL : Hid (Cut s.data.toList ss fr (k + 1)) := Cut.skip hcut.out (by rw [hls]; exact hlt) (by rw [HGB.out]; exact fun h => hd (e46.2 h))
          clear hls hcut hd e46 heq
          go_wp2_with fail
          go_roundg (s.size + 1 - (k + 1))
          case measure => omega
          case rel => exact ⟨k + 1, fr, ss, by omega, by go_num, rfl, rfl, by omega, HL.out, hbw.out, hown.out⟩
    · have HD := Lib.hid (hcut.out.done (by rw [hls]; omega))
      have HS := Lib.hid hown.out.sl
      clear hls hcut
      go_wp2_with fail
      go_ret
      exact ⟨_, ss, rfl, HD.out, HS.out, by omega, hbw.out⟩
end Go.Proofs.YtfpnjbomlmhlpaaGreat
