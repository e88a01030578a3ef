/- Contract: Text of certify. -/
import Derived.Test.YtehbnckdllbmgaaGreatDoorCerText3
import Derived.Test.YtehbnckdllbmgaaGreatDoorCerF
import Derived.Lib.AppendIntMem
set_option linter.unusedSimpArgs false
set_option linter.unusedVariables false

/- Contracts: strings.Builder, line and Text of certify; what the library's variables hold. -/
namespace Go.Proofs.YtehbnckdllbmgaaGreatDoor
open Go.RowKit

/-! strings.Builder -/
theorem bd_info : (Tryz.prog.info? 83).map (·.size) = some 2 := by kernel_rfl
theorem bd_lies : liesAt Tryz.prog Tryz.prog.depth 83 (2 / Tryz.prog.cellsOf 83) 0 83 1 = true := by kernel_rfl
theorem byte_info : (Tryz.prog.info? 5).map (fun i => (i.zero, i.size, i.bytes)) = some (some (.int .u8 0), 1, 1) := by kernel_rfl
set_option maxRecDepth 100000 in
theorem copyCheck_any (B b : Nat) (bs : List Value) (w : World) (h : Lib.IsBuilder 83 5 B b bs w) :
    Calls Tryz.prog 88 #[.pointer (some ⟨b, 0, none⟩)] w fun e w' => e = .returned (.tuple #[]) ∧ Lib.BuilderAt 83 5 B b (.pointer (some ⟨b, 0, none⟩)) bs w' ∧ Below B w w' := by
  obtain ⟨j, hj, hjs⟩ := Option.map_eq_some_iff.1 bd_info
  rcases h with h | h
  · have h0 := h.cell0
    have hsh := h.shape
    have hfz := h.frozen0
    have H := Lib.hid h
    clear h
    go_enter Tryz.func88, Tryz.ntmps88
    go_wp2
    rw [Lib.run_to_unsafe w ⟨b, 0, none⟩ Tryz.underlying81 Tryz.underlying138 hj (by rw [hjs]; decide) hsh (Nat.zero_lt_succ 1)]
    simp only [Result.andThen]
    rw [Oper.upon_value]
    go_wp2
    rw [run_callFunc_extern Tryz.func117 (by kernel_rfl) (by kernel_rfl) (by kernel_rfl) (e := Extern.AbiNoEscape.same) (by kernel_rfl)]
    rw [Lib.run_noEscape]
    simp only [Result.andThen]
    rw [Oper.upon_value]
    go_wp2
    rw [Lib.run_from_unsafe w ⟨b, 0, none⟩ Tryz.underlying138 Tryz.underlying81 hj hsh bd_lies]
    simp only [Result.andThen]
    rw [Oper.upon_value]
    go_wp2
    go_end0
    exact ⟨rfl, H.out.used _, (Below.refl B w).setCell (p := ⟨b, 0, none⟩) H.out.1 _⟩
  · have h0 := h.cell0
    have H := Lib.hid h
    clear h
    go_enter Tryz.func88, Tryz.ntmps88
    go_wp2
    rw [Lib.run_neq_ptr_same w _ Tryz.underlying81 hj]
    go_wp2
    go_end0
    exact ⟨rfl, H.out, Below.refl _ _⟩
set_option maxRecDepth 100000 in
set_option maxHeartbeats 1000000 in
theorem write_any (B b : Nat) (bs : List Value) (s : ByteArray) (w : World) (h : Lib.IsBuilder 83 5 B b bs w) (hlen : bs.length + s.size ≤ 140737488355328) (hBw : B ≤ w.heap.size) :
    Calls Tryz.prog 57 #[.pointer (some ⟨b, 0, none⟩), .string s] w fun e w' => (∃ v, e = .returned v) ∧ Lib.BuilderAt 83 5 B b (.pointer (some ⟨b, 0, none⟩)) (bs ++ Lib.strCells s) w' ∧ Below B w w' := by
  obtain ⟨i0, hi, hz0, hz1, hz2⟩ := info_parts byte_info
  go_enter Tryz.func57, Tryz.ntmps57
  go_wp2_with fail
  refine (copyCheck_any B b bs w h).mono ?_
  rintro e w1 ⟨rfl, hat, hb1⟩
  have hlt := hat.lt
  obtain ⟨hB, v, hbk, hown, hne⟩ := hat
  have k0 : w1.cell? ⟨b, 0, none⟩ = some (.pointer (some ⟨b, 0, none⟩)) := by rw [Lib.cell_of_heap hbk]; rfl
  have k1 : w1.cell? ⟨b, 1, none⟩ = some v := by rw [Lib.cell_of_heap hbk]; rfl
  go_wp2_with (at_builtin; refine Lib.wpList_append_own_string _ rfl _ _ 57 9 rfl B 5 i0 Tryz.underlying57 Tryz.underlying9 hi hz0 hz1 hz2 _ _ _ rfl hown s rfl ?c3 ?c4 ?c5 ?_)
  case c3 => unfold maxLen; omega
  case c4 => omega
  case c5 => have := hb1.size; omega
  intro v' w2 hown' hgrow _
  have hb2 : w2.heap[b]? = some (.cells #[.pointer (some ⟨b, 0, none⟩), v] 83 (0, 0)) := (hgrow.block b hlt (fun e => hne e.symm)).trans hbk
  have d1 : w2.cell? ⟨b, 1, none⟩ = some v := by rw [Lib.cell_of_heap hb2]; rfl
  have f1 : w2.frozen? ⟨b, 1, none⟩ = false := Lib.frozen_of_heap hb2 1
  have hput := Lib.BuilderAt.put (T := 83) (e := 5) hB hb2 (bs' := bs ++ Lib.strCells s) (by simpa [Lib.strCells_length] using hown') (by decide)
  have hbb : Below B w w2 := hb1.grown hgrow (by have := hb1.size; omega) (fun k hk => (hown.lt k hk).1)
  obtain ⟨ao, n', cap, rfl⟩ : ∃ ao n' cap, v' = .slice ao n' cap := by
    rcases hown'.2 with ⟨hv, _⟩ | ⟨g, cap, cur, hv, _⟩ <;> exact ⟨_, _, _, hv⟩
  have HP := Lib.hid hput; have HBB := Lib.hid hbb
  clear hown hown' hgrow hbk hput hbb
  go_wp2_with fail
  go_ret2
  exact ⟨⟨_, rfl⟩, HP.out, HBB.out.setCell (p := ⟨b, 1, none⟩) hB _⟩

/-! the library's variables -/
def IfaceV (ev : Value) : Prop := ev = .nilIface ∨ ∃ te pe, ev = .iface te pe
/-- what the library's variables hold -/
structure VarsC (w : World) : Prop where
  ml : ∃ m, w.cell? ⟨0, 0, none⟩ = some (.int .i64 m)
  tab : Lib.TabIs Tryz.prog w "internal/strconv.uint64pow10" .u64 Lib.pow10Tab
  sy : ∃ ev, w.cell? ⟨1, 0, none⟩ = some ev ∧ IfaceV ev
  ra : ∃ ev, w.cell? ⟨2, 0, none⟩ = some ev ∧ IfaceV ev
theorem VarsC.keep {w w' : World} (h : VarsC w) (hb : Below w.heap.size w w') : VarsC w' := by
  obtain ⟨⟨m, h1⟩, h2, ⟨e, h3, h4⟩, ⟨e2, h5, h6⟩⟩ := h
  exact ⟨⟨m, cell_keep hb h1⟩, (Lib.tabBelow_of_tabIs h2).on hb |>.here, ⟨e, cell_keep hb h3, h4⟩, ⟨e2, cell_keep hb h5, h6⟩⟩
def in64 (n : Int) : Prop := -9223372036854775808 ≤ n ∧ n ≤ 9223372036854775807
theorem itoa_any (n : Int) (w : World) (hn : in64 n) (hV : VarsC w) : Calls Tryz.prog 89 #[.int .i64 n] w (Ret w (.string ⟨(Lib.itoa n).toArray⟩)) := by
  refine (Tryz.strconv_Itoa n hn.1 hn.2 w hV.tab).mono ?_
  rintro e w' ⟨rfl, k, os, rfl⟩
  exact ⟨rfl, Lib.below_grow _ _ (Nat.le_refl _) _ _⟩
theorem enter_Itoa : ∀ args w, (callFunc 89 args).run Tryz.prog w = .ok (.enter 89 args) w := enters_of Tryz.func89 (by kernel_rfl) rfl
theorem enter_Join : ∀ args w, (callFunc 90 args).run Tryz.prog w = .ok (.enter 90 args) w := enters_of Tryz.func90 (by kernel_rfl) rfl
theorem join_nil_any (sep : ByteArray) (w : World) : Calls Tryz.prog 90 #[.slice none 0 0, .string sep] w (Ret w (.string ⟨#[]⟩)) := by
  go_enter Tryz.func90, Tryz.ntmps90
  go_wp2_with fail
  go_ret
  exact ⟨rfl, Below.refl _ _⟩

/-- a string of bytes -/
def bs (l : List UInt8) : ByteArray := ⟨l.toArray⟩
theorem bs_list (l : List UInt8) : (bs l).data.toList = l := rfl
theorem bs_of (s : ByteArray) : bs s.data.toList = s := by cases s; simp [bs]
theorem bs_size (l : List UInt8) : (bs l).size = l.length := by simp [bs, ByteArray.size]
theorem bs_app (a b : List UInt8) : bs a ++ bs b = bs (a ++ b) := by
  apply ByteArray.ext
  rw [ByteArray.data_append]
  show a.toArray ++ b.toArray = (a ++ b).toArray
  simp
theorem wpList_app_str {ops : Array Oper} {rest : List Oper} {o : Oper} {a : Act} {Q : Exit → Act → World → Prop} {w : World} (hw : Region.wanted o (yielded ops a.tmps) = true) (s x : Operand)
    (ho : o.op = .call { callee := .builtin .append, args := #[s, x], argTypes := #[112, 112] }) (B : Nat) (v : Value) (ss : List ByteArray) (hs : a.eval s = v) (hown : OwnZ w B v ss)
    (g c : Nat) (y : ByteArray) (hx : a.eval x = .slice (some ⟨g, 0, none⟩) 1 c) (hy : w.cell? ⟨g, 0, none⟩ = some (.string y)) (hlen : ss.length ≤ 2000000) (hb : B ≤ w.heap.size)
    (h : ∀ v' w', OwnZ w' B v' (ss ++ [y]) → w.grownBy w' v.ownBlock → (v'.ownBlock = v.ownBlock ∨ v'.ownBlock = some w.heap.size) → wpList Tryz.prog ops Q rest (a.put o.dst v') w') : wpList Tryz.prog ops Q (o :: rest) a w :=
  wpList_step fun K hK => by
    rw [if_pos hw]
    exact wp_app_str s x ho B v ss hs hown g c y hx hy hlen hb fun v' w' a1 a2 a3 => hK _ _ (h v' w' a1 a2 a3)
theorem size_data (s : ByteArray) : s.data.toList.length = s.size := Array.length_toList
def in64C (c : Cut) : Prop := in64 c.2 ∧ ∀ x ∈ c.1, in64 x
theorem joinW_len : ∀ (ls : List (List UInt8)) (x : List UInt8), x ∈ ls → x.length ≤ (joinW ls).length
  | [], x, h => by cases h
  | [y], x, h => by
    have : x = y := by simpa using h
    subst this; exact Nat.le_refl _
  | y :: z :: r, x, h => by
    have h2 : (joinW (y :: z :: r)).length = y.length + 1 + (joinW (z :: r)).length := by simp [joinW]; omega
    rcases List.mem_cons.1 h with rfl | h
    · omega
    · have := joinW_len (z :: r) x h
      omega
/-- the beginning of a cut, as text -/
theorem join_any (v : Value) (l : List Int) (w : World) (B : Nat) (h : OwnZ w B v (l.map fun x => bs (Lib.itoa x))) (hl : l.length ≤ 100000) (hj : (joinW (l.map Lib.itoa)).length ≤ 1000000) :
    Calls Tryz.prog 90 #[v, .string ⟨#[32]⟩] w (Ret w (.string (bs (joinW (l.map Lib.itoa))))) := by
  rcases h.2 with ⟨rfl, h0⟩ | ⟨g, cap, cur, rfl, _, hg, hn, hm, hs, ht⟩
  · have : l = [] := by simpa using h0
    subst this
    exact join_nil_any _ w
  · have hz := h.sl
    obtain ⟨a', cap', he, _, _, h3⟩ := hz
    simp only [Value.slice.injEq, List.length_map] at he
    obtain ⟨rfl, _, rfl⟩ := he
    have e1 : ((l.map fun x => bs (Lib.itoa x)).map (·.data.toList)) = l.map Lib.itoa := by rw [List.map_map]; rfl
    have e2 : Lib.join ((l.map fun x => bs (Lib.itoa x)).map (·.data.toList)) (⟨#[32]⟩ : ByteArray).data.toList = joinW (l.map Lib.itoa) := by rw [e1]; exact join_joinW _
    refine (Tryz.strings_Join g 0 cap (l.map fun x => bs (Lib.itoa x)) ⟨#[32]⟩ w (fun j x hj => ?_) (lt_of_block hg) (by simp; omega) hn (by rw [e2]; omega)).mono ?_
    · obtain ⟨hj1, hj2⟩ := List.getElem?_eq_some_iff.1 hj
      obtain ⟨b, off, ha, hc⟩ := h3 j hj1
      simp only [Option.some.injEq, Addr.mk.injEq, and_true] at ha
      obtain ⟨rfl, rfl⟩ := ha
      rw [hc]
      have hj3 : j < l.length := by simpa using hj1
      rw [← hj2]
      simp [zi, hj3]
    · rintro e w' ⟨rfl, hb⟩
      rw [e2]
      exact ⟨rfl, hb⟩

def ln7d (i : Nat) : Nat := if i = 8 then 2 else i + 19
def ln7V (lv : Value) (c : Cut) (g : Nat) : Nat → Value
  | 0 => lv
  | 1 => .string (bs (joinW (c.1.map Lib.itoa)))
  | 2 => .string (bs (joinW (c.1.map Lib.itoa) ++ [58, 32]))
  | 3 => .pointer (some ⟨g, 0 + 1, none⟩)
  | 4 => .int .i64 c.2
  | 5 => .string (bs (Lib.itoa c.2))
  | 6 => .string (bs (lineB c))
  | 7 => .string (bs (lineT c))
  | 8 => .string (bs (lineT c))
  | _ => undef
theorem lineB_eq (c : Cut) : (joinW (c.1.map Lib.itoa) ++ [58, 32]) ++ Lib.itoa c.2 = lineB c := by unfold lineB; simp
set_option maxRecDepth 100000 in
set_option maxHeartbeats 1000000 in
theorem line_any (u : Value) (c : Cut) (w : World) (hu : SI w u c.1) (h64 : in64C c) (hl : (lineT c).length ≤ 1000000) (hn : c.1.length ≤ 100000) (hV : VarsC w) :
    Calls Tryz.prog 58 #[.agg #[u, .int .i64 c.2]] w (Ret w (.string (bs (lineT c)))) := by
  have HU := Lib.hid hu; have HV := Lib.hid hV; have H64 := Lib.hid h64
  obtain ⟨ua, uc, rfl, u1, u2, u3⟩ := hu
  have U3 := Lib.hid u3
  clear u3 hV h64
  have hum : c.1.length ≤ 9223372036854775807 := by omega
  have hlb : (lineB c).length + 1 = (lineT c).length := by unfold lineT; simp
  have hlj : (joinW (c.1.map Lib.itoa)).length + 2 + (Lib.itoa c.2).length = (lineB c).length := by rw [← lineB_eq]; simp; omega
  have HL1 := Lib.hid hlb; have HL2 := Lib.hid hlj
  clear hlb hlj
  obtain ⟨W1, hW1⟩ : ∃ W1, W1 = w.alloc (.cells #[.slice ua c.1.length uc, .int .i64 c.2] 54) := ⟨_, rfl⟩
  have hb1 : Below w.heap.size w W1 := by rw [hW1]; exact (Below.refl _ _).alloc (Nat.le_refl _) _
  have k0 : W1.cell? ⟨w.heap.size, 0, none⟩ = some (.slice ua c.1.length uc) := by rw [hW1]; exact cell_new rfl rfl
  have k1 : W1.cell? ⟨w.heap.size, 1, none⟩ = some (.int .i64 c.2) := by rw [hW1]; exact cell_new rfl rfl
  have HB1 := Lib.hid hb1; have K1 := Lib.hid k1
  clear hb1
  go_enter Tryz.func58, Tryz.ntmps58
  go_wp2_with fail
  rw [← hW1]
  clear hW1
  go_wp2_with fail
  go_loopw [3, 9] (fun v i wr => ∃ k : Nat, k ≤ c.1.length ∧ i = .int .i64 k ∧ Hid (Below W1.heap.size W1 wr) ∧ Hid (OwnZ wr W1.heap.size v ((c.1.take k).map fun x => bs (Lib.itoa x)))) (fun _ i _ => c.1.length - (intOf i).toNat)
  case atStart => exact ⟨0, Nat.zero_le _, rfl, Below.refl _ _, OwnZ_nil _ _⟩
  case round =>
    obtain ⟨k, hk, rfl, hb, ho⟩ := hrel
    by_cases hlt : k < c.1.length
    · obtain ⟨b, off, rfl, hc⟩ := U3.out k hlt
      have hc := cell_keep (HB1.out.trans (hb.out.mono HB1.out.size)) hc
      go_wp2_with fail
      refine (itoa_any (gi c.1 k) wr (H64.out.2 _ (gi_mem hlt)) (HV.out.keep (HB1.out.trans (hb.out.mono HB1.out.size)))).mono ?_
      rintro e w2 ⟨rfl, hb2⟩
      have hb3 := ext_trans hb.out hb2
      have HB3 := Lib.hid hb3
      have HO3 := Lib.hid (ho.out.below hb2)
      have hsz : W1.heap.size ≤ w2.heap.size := hb3.size
      clear hb2 hb3
      go_wp2_with (at_builtin; refine wpList_app_str rfl _ _ rfl W1.heap.size _ (List.map (fun x => bs (Lib.itoa x)) (c.1.take k)) rfl (HO3.out.below ((Below.refl _ _).alloc (Nat.le_refl _) _)) w2.heap.size 1 (bs (Lib.itoa (gi c.1 k))) rfl (cell_new rfl rfl) (by simp; omega) (by simp; omega) ?_)
      intro v' w3 ho' hg _
      have hb4 : Below W1.heap.size W1 w3 := (HB3.out.alloc hsz _).grown hg (by simp; omega) (fun j hj => (OwnZ.lt HO3.out j hj).1)
      have HB4 := Lib.hid hb4
      have HO4 := Lib.hid (show OwnZ w3 W1.heap.size v' ((c.1.take (k + 1)).map fun x => bs (Lib.itoa x)) by rw [take_succ_gi hlt, List.map_append, List.map_take]; exact ho')
      clear hg ho' hb4
      go_wp2_with fail
      go_roundw
      case rel => exact ⟨k + 1, by omega, by go_num, HB4, HO4⟩
      case measure => simp [intOf]; omega
    · obtain rfl : k = c.1.length := by omega
      have ho2 := ho.out
      rw [List.take_length] at ho2
      obtain ⟨za, zc, hzv, _⟩ := ho2.sl
      rw [List.length_map] at hzv
      subst hzv
      have HO2 := Lib.hid ho2
      clear ho2 ho
      go_wp2_with fail
      refine wp_name fun a0 ha0 => ?_
      have z1 : a0.eval (.tmp 1) = .pointer (some ⟨w.heap.size, 0, none⟩) := by rw [ha0]; rfl
      have z3 : a0.eval (.tmp 3) = .slice za c.1.length zc := by rw [ha0]; rfl
      refine wp_region_ip ln7d (fun i v _ => v = ln7V (.slice za c.1.length zc) c w.heap.size i) (fun w' => Below wr.heap.size wr w') mixed (by kernel_rfl) (by rw [show a0.tmps.size = 27 by rw [ha0]; rfl]; kernel_rfl) (by kernel_rfl) (Below.refl _ _).drew (fun _ _ _ _ h _ => h) ?_ ?_
      · rintro i op a w7 hop hdep hsm hb7 K hK
        have hi : i < 9 := (Array.getElem?_eq_some_iff.1 hop).1
        have q1 := (hsm.eval (m := 1) (by decide)).trans z1
        have q3 := (hsm.eval (m := 3) (by decide)).trans z3
        have hbw := HB1.out.trans ((hb.out.trans (hb7.mono hb.out.size)).mono HB1.out.size)
        have dv : ∀ e' ∈ op.after, Region.binds .any e' = true → a.eval (.tmp (ln7d e'.on)) = ln7V (.slice za c.1.length zc) c w.heap.size e'.on := fun e he hbi => hdep e he hbi
        have hn' : ∀ v, v = ln7V (.slice za c.1.length zc) c w.heap.size i → K (a.put op.dst v) w7 := fun v hv => hK _ _ hb7 (Below.refl _ _) hv
        have hcase : i = 0 ∨ i = 1 ∨ i = 2 ∨ i = 3 ∨ i = 4 ∨ i = 5 ∨ i = 6 ∨ i = 7 ∨ i = 8 := by omega
        rcases hcase with h | h | h | h | h | h | h | h | h <;> subst h <;> have ho' := Option.some.inj hop <;> subst ho'
        · exact vl_move (.tmp 3) rfl _ q3 (hn' _ rfl)
        · exact vl_call2 90 _ _ (.tmp 19) (.const (.string ⟨#[32]⟩)) rfl enter_Join _ _ (dv ⟨0, .data⟩ (by simp) rfl) rfl ((join_any _ c.1 w7 W1.heap.size (HO2.out.below hb7) hn (by have := HL1.out; have := HL2.out; omega)).mono fun e w8 ⟨he, hb8⟩ => ⟨_, he, hK _ _ (ext_trans hb7 hb8) hb8 rfl⟩)
        · exact vl_sadd (.tmp 20) (.const (.string ⟨#[58, 32]⟩)) rfl (bs (joinW (c.1.map Lib.itoa))) ⟨#[58, 32]⟩ (dv ⟨1, .data⟩ (by simp) rfl) rfl (by rw [bs_size]; have := HL1.out; have := HL2.out; omega) (by decide) (hn' _ (by show _ = Value.string _; rw [← bs_app]; rfl))
        · exact fa_cut (.tmp 1) 1 (by omega) rfl w.heap.size 0 q1 (hn' _ rfl)
        · exact vl_load 3 agg_int0 (.tmp 22) rfl _ _ (dv ⟨3, .data⟩ (by simp) rfl) (by rw [Nat.zero_add]; exact cell_keep (hb.out.trans (hb7.mono hb.out.size)) K1.out) (hn' _ rfl)
        · exact vl_call1 89 _ (.tmp 23) rfl enter_Itoa _ (dv ⟨4, .data⟩ (by simp) rfl) ((itoa_any c.2 w7 H64.out.1 (HV.out.keep hbw)).mono fun e w8 ⟨he, hb8⟩ => ⟨_, he, hK _ _ (ext_trans hb7 hb8) hb8 rfl⟩)
        · exact vl_sadd (.tmp 21) (.tmp 24) rfl _ _ (dv ⟨2, .data⟩ (by simp) rfl) (dv ⟨5, .data⟩ (by simp) rfl) (by rw [bs_size]; simp; have := HL1.out; have := HL2.out; omega) (by rw [bs_size]; have := HL1.out; have := HL2.out; omega) (hn' _ (by show _ = Value.string _; rw [bs_app, lineB_eq]))
        · exact vl_sadd (.tmp 25) (.const (.string ⟨#[10]⟩)) rfl (bs (lineB c)) ⟨#[10]⟩ (dv ⟨6, .data⟩ (by simp) rfl) rfl (by rw [bs_size]; have := HL1.out; omega) (by decide) (hn' _ (by show _ = Value.string _; unfold lineT; rw [← bs_app]; rfl))
        · exact vl_assign (.tmp 26) rfl _ (dv ⟨7, .data⟩ (by simp) rfl) (hn' _ rfl)
      rintro a5 w5 hs5 hb5 hv5
      have hs2 : a5.eval (.tmp 2) = .string (bs (lineT c)) := hv5 8 (by decide)
      have hsm5 : Sm [2, 19, 20, 21, 22, 23, 24, 25, 26] a0 a5 := ⟨hs5.1, hs5.2.1, fun m hm => hs5.2.2 m (fun h => hm (by
        have : m ∈ [19, 20, 21, 22, 23, 24, 25, 26, 2] := h
        simp at this ⊢; omega))⟩
      have HA := hsm5.lit
      simp only [List.foldl] at HA
      rw [hs2] at HA
      generalize a5.eval (.tmp 19) = t19 at HA
      generalize a5.eval (.tmp 20) = t20 at HA
      generalize a5.eval (.tmp 21) = t21 at HA
      generalize a5.eval (.tmp 22) = t22 at HA
      generalize a5.eval (.tmp 23) = t23 at HA
      generalize a5.eval (.tmp 24) = t24 at HA
      generalize a5.eval (.tmp 25) = t25 at HA
      generalize a5.eval (.tmp 26) = t26 at HA
      rw [HA, ha0]
      simp only [Act.put, List.setIfInBounds_toArray, List.set_cons_zero, List.set_cons_succ]
      clear HA hv5 hs5 hs2 hsm5 ha0 z1 z3
      have HR := Lib.hid (HB1.out.trans ((hb.out.trans (hb5.mono hb.out.size)).mono HB1.out.size))
      clear hb5
      go_wp2_with fail
      go_ret
      exact ⟨rfl, HR.out⟩
end Go.Proofs.YtehbnckdllbmgaaGreatDoor

/- Contract: Text of certify. -/
namespace Go.Proofs.YtehbnckdllbmgaaGreatDoor
open Go.RowKit

theorem isB_below {B b : Nat} {l : List Value} {w w' : World} (h : Lib.IsBuilder 83 5 B b l w) (hb : Below w.heap.size w w') : Lib.IsBuilder 83 5 B b l w' := by
  have key : ∀ p, Lib.BuilderAt 83 5 B b p l w → Lib.BuilderAt 83 5 B b p l w' := fun p h => by
    have hlt := h.lt
    obtain ⟨h1, v, h2, h3, h4⟩ := h
    exact ⟨h1, v, (hb.block b hlt).trans h2, owns_below h3 hb, h4⟩
  exact h.elim (fun h => .inl (key _ h)) fun h => .inr (key _ h)
theorem str_bytes (l : List UInt8) : Lib.strCells (bs l) = Lib.byteCells l := rfl
theorem byte_app (a b : List UInt8) : Lib.byteCells (a ++ b) = Lib.byteCells a ++ Lib.byteCells b := by simp [Lib.byteCells]
theorem textT_take {L : List Cut} {k : Nat} (h : k < L.length) : textT (L.take (k + 1)) = textT (L.take k) ++ lineT (ci L k) := by
  rw [take_ci h]; unfold textT; rw [List.flatMap_append]; simp
theorem textT_take_le (L : List Cut) (k : Nat) : (textT (L.take k)).length ≤ (textT L).length := by
  have : textT L = textT (L.take k) ++ textT (L.drop k) := by
    conv => lhs; rw [← List.take_append_drop k L]
    unfold textT; rw [List.flatMap_append]
  rw [this]; simp
theorem line_le {L : List Cut} {k : Nat} (h : k < L.length) : (lineT (ci L k)).length ≤ (textT L).length := by
  have h1 := textT_take h
  have h2 := textT_take_le L (k + 1)
  rw [h1] at h2
  simp at h2
  omega

set_option maxRecDepth 100000 in
set_option maxHeartbeats 1000000 in
theorem Text_any (v : Value) (L : List Cut) (w : World) (h : SC w v L) (h64 : ∀ c ∈ L, in64C c) (hn : ∀ c ∈ L, c.1.length ≤ 100000) (hl : (textT L).length ≤ 1000000) (hV : VarsC w) :
    Calls Tryz.prog 27 #[v] w (Ret w (.string (bs (textT L)))) := by
  have H := Lib.hid h; have H64 := Lib.hid h64; have HN := Lib.hid hn; have HV := Lib.hid hV
  obtain ⟨a, cap, rfl, h1, h2, h3⟩ := h
  have H3 := Lib.hid h3
  clear h3 h64 hn hV
  have hm : L.length ≤ 9223372036854775807 := by unfold maxLen at h2; omega
  go_enter Tryz.func27, Tryz.ntmps27
  go_wp2_with fail
  go_loopw [8] (fun i wr => ∃ k : Nat, k ≤ L.length ∧ i = .int .i64 k ∧ Hid (Below w.heap.size w wr) ∧ Hid (Lib.IsBuilder 83 5 w.heap.size w.heap.size (Lib.byteCells (textT (L.take k))) wr)) (fun i _ => L.length - (intOf i).toNat)
  case atStart =>
    refine ⟨0, Nat.zero_le _, rfl, (Below.refl _ _).alloc (Nat.le_refl _) _, .inl ⟨Nat.le_refl _, .slice none 0 0, World.alloc_heap_new w _, World.ownsRow_nil _ _ _ _, by simp [Value.ownBlock]⟩⟩
  case round =>
    obtain ⟨k, hk, rfl, hb, hB⟩ := hrel
    by_cases hlt : k < L.length
    · obtain ⟨b, off, u, rfl, hcu⟩ := H3.out k hlt
      have hcw := hcu.keep hb.out
      obtain ⟨c0, c1, _⟩ := hcw
      have HSu := Lib.hid hcu.s
      obtain ⟨ua, uc, rfl, u1, u2⟩ := hcu.s.sl
      clear hcu
      obtain ⟨W8, hW8⟩ : ∃ W8, W8 = wr.alloc (.cells #[.slice ua (ci L k).1.length uc, .int .i64 (ci L k).2] 54) := ⟨_, rfl⟩
      have hb8 : Below wr.heap.size wr W8 := by rw [hW8]; exact (Below.refl _ _).alloc (Nat.le_refl _) _
      have HB8 := Lib.hid hb8
      clear hb8
      go_wp2_with fail
      rw [← hW8]
      have hbw8 := hb.out.trans (HB8.out.mono hb.out.size)
      refine (line_any _ (ci L k) W8 (HSu.out.keep hbw8) (H64.out _ (ci_mem hlt)) (by have := line_le hlt; omega) (HN.out _ (ci_mem hlt)) (HV.out.keep hbw8)).mono ?_
      rintro e w2 ⟨rfl, hb2⟩
      have HB2 := Lib.hid hb2; have HW2 := Lib.hid (hbw8.trans (hb2.mono hbw8.size))
      clear hW8 hb2 hbw8
      go_wp2_with fail
      refine (write_any w.heap.size w.heap.size (Lib.byteCells (textT (L.take k))) (bs (lineT (ci L k))) w2 (isB_below (isB_below hB.out HB8.out) HB2.out) (by rw [bs_size, Lib.byteCells_length]; have := line_le hlt; have := textT_take_le L k; omega) HW2.out.size).mono ?_
      rintro e w3 ⟨⟨vv, rfl⟩, hat, hb3⟩
      have HAT := Lib.hid (show Lib.IsBuilder 83 5 w.heap.size w.heap.size (Lib.byteCells (textT (L.take (k + 1)))) w3 by rw [textT_take hlt, byte_app, ← str_bytes (lineT (ci L k))]; exact .inr hat)
      have HB3 := Lib.hid (HW2.out.trans hb3)
      clear hat hb3
      go_wp2_with fail
      go_roundw
      case rel => exact ⟨k + 1, by omega, by go_num, HB3, HAT⟩
      case measure => simp [intOf]; omega
    · obtain rfl : k = L.length := by omega
      have hB2 := hB.out
      rw [List.take_length] at hB2
      have HB2 := Lib.hid hB2; clear hB2
      go_wp2_with fail
      refine (Tryz.Builder_String_any w.heap.size w.heap.size (textT L) wr HB2.out hb.out.size).mono ?_
      rintro e w2 ⟨rfl, hb2⟩
      have HB3 := Lib.hid (hb.out.trans hb2); clear hb2
      go_wp2_with fail
      go_ret
      exact ⟨rfl, HB3.out⟩
end Go.Proofs.YtehbnckdllbmgaaGreatDoor
