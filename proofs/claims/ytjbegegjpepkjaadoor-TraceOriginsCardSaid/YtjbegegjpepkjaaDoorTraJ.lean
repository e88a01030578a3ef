/- Contract: Origin, back to the heat. -/
import Derived.Test.YtjbegegjpepkjaaDoorTraI
namespace Go.Proofs.YtjbegegjpepkjaaDoor
open Go.RowKit Go.Maps

def orgF (l : List Lnk) (y : Lnk) : List Lnk := orgs l l.length y
theorem orgF_end {l : List Lnk} {y : Lnk} (h : y.frm = []) : orgF l y = [y] := by
  unfold orgF; cases e : l.length with
  | zero => rfl
  | succ n => rw [orgs, if_pos h]
theorem orgF_step {l : List Lnk} (h : RegP l) {k : Nat} {y : Lnk} (hk : l[k]? = some y) (hf : y.frm ≠ []) : ∃ (i : Nat) (z : Lnk), i < k ∧ l[i]? = some z ∧ fnd l y.frm = some z ∧ orgF l y = y :: orgF l z := by
  obtain ⟨i, z, hik, hz, hit, _⟩ := h.frm k y hk hf
  have hfz : fnd l y.frm = some z := by rw [← hit]; exact h.fnd_at hz
  have hkl := (List.getElem?_eq_some_iff.1 hk).1
  refine ⟨i, z, hik, hz, hfz, ?_⟩
  unfold orgF
  obtain ⟨n, hn⟩ : ∃ n, l.length = n + 1 := ⟨l.length - 1, by omega⟩
  rw [hn, orgs, if_neg hf, hfz]
  dsimp only
  rw [orgs_more h i z hz n (n + 1) (by omega) (by omega)]

theorem wpList_store_link {ops : Array Oper} {rest : List Oper} {o : Oper} {a : Act} {w : World} {Q : Exit → Act → World → Prop} (hgd : o.guard = none) (x y : Operand) (ho : o.op = .store 29 x y)
    (g : Nat) (z z0 : Lnk) (hx : a.eval x = .pointer (some ⟨g, 0, none⟩)) (hy : a.eval y = .agg #[.string (bs z.item), .string (bs z.frm), .string (bs z.heat), .int .i64 z.tm, .int .u64 z.hash]) (hg : LkB w g z0)
    (h : ∀ w', LkB w' g z → w.grownBy w' (some g) → wpList Tryd.prog ops Q rest (a.put o.dst undef) w') : wpList Tryd.prog ops Q (o :: rest) a w := by
  refine wpList_store_row hgd 29 x y ho g _ hx hy 29 _ hg (by kernel_rfl) rfl (by simp [Value.oneCell']) (h _ (hg.set z) ⟨rfl, rfl, rfl, by simp, fun k hk hne => ?_⟩)
  unfold World.setRow
  simp only [Array.getElem?_modify]
  rw [if_neg (fun e => hne (by rw [e]))]
set_option maxHeartbeats 4000000 in
set_option maxRecDepth 100000 in
theorem Origin_yes (B rb : Nat) (l : List Lnk) (s : ByteArray) (w : World) (h : RegW B rb l w) (hs : s.size ≤ maxLen) (x : Lnk) (hx : fnd l s.data.toList = some x) :
    Calls Tryd.prog 14 #[.pointer (some ⟨rb, 0, none⟩), .string s] w fun e w' => ∃ v, e = .returned (.tuple #[v, .int .i64 0]) ∧ OwnK w' w.heap.size v (orgF l x) ∧ Below w.heap.size w w' := by
  have HF := Lib.hid (Heat_yes B rb l s w h hs x hx)
  have H := Lib.hid h
  have HX := Lib.hid hx
  have HSZ := Lib.hid hs
  have HP : Hid (RegP l) := by obtain ⟨_, _, _, h⟩ := h; exact h.reg
  have HL : Hid (∀ y ∈ l, y.frm.length ≤ 64) := by obtain ⟨_, _, _, h⟩ := h; exact fun y hy => (h.h6 y hy).2.1
  have hll : l.length ≤ 4096 := by obtain ⟨_, _, _, h⟩ := h; exact h.h5
  clear h hx hs
  go_enter Tryd.func14, Tryd.ntmps14
  go_wp2_with fail
  refine HF.out.mono ?_
  rintro e w1 ⟨rfl, hb⟩
  have HB1 := Lib.hid hb
  clear hb HF
  go_wp2_with fail
  refine (find_yes B rb l s _ (H.out.keep HB1.out) HSZ.out x HX.out).mono ?_
  rintro e w2 ⟨rfl, hb⟩
  have HB2 := Lib.hid (ext_trans HB1.out hb)
  clear hb
  unfold lkArr
  go_wp2_with fail
  obtain ⟨k0, hk0⟩ := List.getElem?_of_mem (fnd_mem HX.out).1
  have HK0 := Lib.hid hk0
  clear hk0
  have hb3 : Below w.heap.size w ((w2.alloc (.cells #[.string (bs x.item), .string (bs x.frm), .string (bs x.heat), .int .i64 x.tm, .int .u64 x.hash] 29)).alloc (.cells #[.string (bs x.item), .string (bs x.frm), .string (bs x.heat), .int .i64 x.tm, .int .u64 x.hash] 29)) :=
    (below_alloc HB2.out _).alloc (by simp; have := HB2.out.size; omega) _
  have hbk : LkB ((w2.alloc (.cells #[.string (bs x.item), .string (bs x.frm), .string (bs x.heat), .int .i64 x.tm, .int .u64 x.hash] 29)).alloc (.cells #[.string (bs x.item), .string (bs x.frm), .string (bs x.heat), .int .i64 x.tm, .int .u64 x.hash] 29)) w2.heap.size x :=
    (LkB.new w2 x).keep ((Below.refl _ _).alloc (Nat.le_refl _) _)
  have how := OwnK_one (w2.alloc (.cells #[.string (bs x.item), .string (bs x.frm), .string (bs x.heat), .int .i64 x.tm, .int .u64 x.hash] 29)) w.heap.size (by simp; have := HB2.out.size; omega) x
  have hsz : (w2.alloc (.cells #[.string (bs x.item), .string (bs x.frm), .string (bs x.heat), .int .i64 x.tm, .int .u64 x.hash] 29)).heap.size = w2.heap.size + 1 := by simp
  rw [hsz] at how
  have hxb : w.heap.size ≤ w2.heap.size := HB2.out.size
  have HB3 := Lib.hid hb3
  have HBK := Lib.hid hbk
  have HOW := Lib.hid how
  clear hb3 hbk how hsz
  generalize (w2.alloc (.cells #[.string (bs x.item), .string (bs x.frm), .string (bs x.heat), .int .i64 x.tm, .int .u64 x.hash] 29)).alloc (.cells #[.string (bs x.item), .string (bs x.frm), .string (bs x.heat), .int .i64 x.tm, .int .u64 x.hash] 29) = W at *
  obtain ⟨xb, hxe⟩ : ∃ xb, w2.heap.size = xb := ⟨_, rfl⟩
  rw [hxe] at HBK HOW hxb ⊢
  clear hxe
  go_loopg [10] k0 (fun g t wr => ∃ (pre : List Lnk) (y : Lnk) (k : Nat), g = k ∧ Hid (l[k]? = some y) ∧ Hid (LkB wr xb y) ∧ Hid (OwnK wr w.heap.size t (pre ++ [y])) ∧ Hid (t.ownBlock ≠ some xb) ∧ Hid (pre ++ orgF l y = orgF l x) ∧ pre.length + k ≤ 4096 ∧ Hid (Below w.heap.size w wr))
  case atStart => exact ⟨[], x, k0, rfl, HK0.out, HBK.out, HOW.out, by show _ ≠ _; simp [Value.ownBlock], rfl, by have := (List.getElem?_eq_some_iff.1 HK0.out).1; simp; omega, HB3.out⟩
  case round =>
    obtain ⟨pre, y, k, rfl, hk, hbk, how, hne, hpre, hpl, hbw⟩ := hrel
    obtain ⟨c0, c1, c2, c3, c4⟩ := hbk.out.at
    have hxl := hbk.out.lt
    obtain ⟨gv, cv, e1⟩ := how.out.form
    subst e1
    by_cases hf : y.frm = []
    · have he : bs y.frm = ⟨#[]⟩ := by rw [hf]; rfl
      rw [he] at c1
      have HE : Hid (pre ++ [y] = orgF l x) := by show _ = _; rw [← hpre.out, orgF_end hf]
      have HOE : Hid (OwnK wr w.heap.size (.slice (some ⟨gv, 0, none⟩) (pre.length + 1) cv) (orgF l x)) := by rw [← HE.out]; exact how.out
      clear hf he
      go_wp2_with fail
      go_ret2
      exact ⟨_, rfl, HOE.out, hbw.out⟩
    · obtain ⟨i, z, hik, hiz, hfz, hst⟩ := orgF_step HP.out hk.out hf
      have hylen := HL.out y (List.mem_of_getElem? hk.out)
      have hne0 : (bs y.frm).size ≠ 0 := by rw [bs_size]; intro e; exact hf (List.eq_nil_of_length_eq_zero e)
      obtain ⟨k1, k2, _⟩ := nonempty_facts hne0
      have HFD := Lib.hid (fun W (hW : Below w.heap.size w W) => find_yes B rb l (bs y.frm) W (H.out.keep hW) (by rw [bs_size]; unfold maxLen; omega) z (by rw [bs_list]; exact hfz))
      unfold lkArr at HFD
      have HIZ := Lib.hid hiz
      have HPRE : Hid ((pre ++ [y]) ++ orgF l z = orgF l x) := by show _ = _; rw [← hpre.out, hst]; simp
      clear hf hylen hne0 hiz hfz hst
      go_wp2_with fail
      refine (HFD.out _ hbw.out).mono ?_
      rintro e w4 ⟨rfl, hb⟩
      have hbk4 := hbk.out.keep hb
      have HOW4 := Lib.hid (how.out.below hb)
      have HB4 := Lib.hid (hbw.out.trans (hb.mono hbw.out.size))
      have hx4 : xb < w4.heap.size := Nat.lt_of_lt_of_le hxl hb.size
      have HBK4 := Lib.hid hbk4
      clear hb hbk4 c0 c1 c2 c3 c4 k1 k2 HFD
      go_wp2_with (refine wpList_store_link rfl (.tmp 8) (.tmp 36) rfl xb z y rfl rfl HBK4.out ?_)
      intro w5 hbk5 hg5
      obtain ⟨d0, d1, d2, d3, d4⟩ := hbk5.at
      have HOW5 : Hid (OwnK w5 w.heap.size (.slice (some ⟨gv, 0, none⟩) (pre.length + 1) cv) (pre ++ [y])) := HOW4.out.kept hg5 (.inr hne.out)
      have HB5 : Hid (Below w.heap.size w w5) := HB4.out.grown hg5 (by have := HB4.out.size; omega) (fun k e => by have := Option.some.inj e; omega)
      have hx5 : xb < w5.heap.size := hbk5.lt
      have hs5 : w.heap.size ≤ w5.heap.size := HB5.out.size
      have HBK5 := Lib.hid hbk5
      have hlit := Lib.hid (lit_link w5 z)
      clear hg5 hbk5
      go_wp2_with (at_builtin; refine wpList_app_link rfl (.tmp 38) (.tmp 40) rfl w.heap.size _ (pre ++ [y]) rfl (HOW5.out.alloc _) w5.heap.size 1 z rfl hlit.out (by rw [List.length_append, List.length_singleton]; omega) (by simp; omega) ?_)
      intro va wa hoa hga hat
      have HA : Hid (OwnK wa w.heap.size va (pre ++ [y] ++ [z])) := by
        show OwnK _ _ _ _
        rw [List.append_assoc]; exact hoa
      have HBA : Hid (Below w.heap.size w wa) := (HB5.out.alloc hs5 _).grown hga (by simp; omega) (fun k e => (HOW5.out.lt k e).1)
      have HKA : Hid (LkB wa xb z) := by
        show _ = _
        rw [hga.block xb (by simp; omega) (fun e => hne.out e.symm), ((Below.refl _ w5).alloc (Nat.le_refl _) _).block xb hx5]
        exact HBK5.out
      have HNA : Hid (va.ownBlock ≠ some xb) := by
        show _ ≠ _
        rcases hat with e | e
        · rw [e]; exact hne.out
        · rw [e]; intro e2; have := Option.some.inj e2; omega
      clear hoa hga hat d0 d1 d2 d3 d4
      go_wp2_with fail
      go_roundg i
      case measure => exact hik
      case rel => exact ⟨pre ++ [y], z, i, rfl, HIZ.out, HKA.out, HA.out, HNA.out, HPRE.out, by rw [List.length_append, List.length_singleton]; omega, HBA.out⟩
end Go.Proofs.YtjbegegjpepkjaaDoor
