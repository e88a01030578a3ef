/- Contract: Bound of schedules. -/
import Derived.Test.YtfpnjbomlmhlpaaGreatPk21
import Derived.RangeFuncBox
import Derived.RangeFuncNested
import Derived.RangeFuncBound
import Derived.RangeFuncCalls
import Derived.RangeFuncLeaves
import Derived.OwnWalkIn
import Derived.TacticsInMore
import Derived.LoopNIn
import Derived.LoopIn
import Derived.Test.YtfpnjbomlmhlpaaGreatPk07
import Derived.Test.YtfpnjbomlmhlpaaGreatPk01
import Derived.OrdersIn
import Derived.Test.YtfpnjbomlmhlpaaGreatPk06
set_option linter.unusedSimpArgs false
set_option linter.unusedVariables false

/- Contract: Greedy of schedules. -/
namespace Go.Proofs.YtfpnjbomlmhlpaaGreat
open Go.RowKit

theorem reach_next {l : List MH} {bl : List (List UInt8)} {E : Edg} {fr : Int} {o : List Nat} (hJ : JobsR (hl l) bl) (hO : OrdOK (hl l) (BefJ l bl E) o) {q : List Ern} (h : Reach (hl l) (BefJ l bl E) fr q) {k : Nat} (hk : k < o.length) (hq : q.map (·.block) = (o.take k).map fun i => (hsi (hl l) i).block) {c : List UInt8} (hc : c ∈ (mhi l o[k]).h.cranes) :
    Reach (hl l) (BefJ l bl E) fr (q ++ [planned (hl l) (BefJ l bl E) fr q o[k] c]) ∧ (q ++ [planned (hl l) (BefJ l bl E) fr q o[k] c]).map (·.block) = (o.take (k + 1)).map fun i => (hsi (hl l) i).block := by
  have hi := hO.lt _ (List.getElem_mem hk)
  have hi' : o[k] < l.length := by rw [hl_len] at hi; exact hi
  refine ⟨.snoc h hi (order_next hO hJ.ok hk hq) (by rw [hsi_ml hi']; exact hc), ?_⟩
  rw [List.map_append, hq, List.take_succ_eq_append_getElem hk, List.map_append]
  rfl
theorem enter_planned : ∀ args w, (callFunc 29 args).run Tryz.prog w = .ok (.enter 29 args) w := enters_of Tryz.func29 (by kernel_rfl) rfl
theorem results_cell2 {fn : Func} {p q : Tmp} {ty : TypeId} (h : fn.results = #[.cell p ty, .tmp q]) {tmps : Array Value} {w : World} {g : Nat} {u v : Value}
    (hp : tmps.getD p undef = .pointer (some ⟨g, 0, none⟩)) (hq : tmps.getD q undef = v) (hl : (loadVar ty ⟨g, 0, none⟩).run Tryz.prog w = .ok u w) :
    (results fn tmps).run Tryz.prog w = .ok (.tuple #[u, v]) w := by
  have hp' : tmps[p]?.getD undef = .pointer (some ⟨g, 0, none⟩) := by simpa using hp
  have hq' : tmps[q]?.getD undef = v := by simpa using hq
  simp [results, h, hp', hq', asAddr, hl]
theorem loadVar_of {t : TypeId} (h : ∀ w, (isAgg t).run Tryz.prog w = .ok false w) (p : Addr) (v : Value) (w : World) (hc : w.cell? p = some v) : (loadVar t p).run Tryz.prog w = .ok v w := by
  simp only [Sem.run_bind, Sem.run_pure, Result.andThen_ok, loadVar, h]
  go_simp
/-- what the loop of Greedy works with -/
structure GrI (W1 wr : World) (b6 : Nat) (l : List MH) (bl : List (List UInt8)) (E : Edg) (fr : Int) (o : List Nat) (k : Nat) (v : Value) (q : List Ern) : Prop where
  r : Reach (hl l) (BefJ l bl E) fr q
  m : q.map (·.block) = (o.take k).map fun i => (hsi (hl l) i).block
  f : FrV W1.heap.size (blkV b6) W1 wr
  o : OwnEn wr W1.heap.size v q
  b : ObjAt wr b6 #[v] 40
theorem GrI.below {W1 wr wr' : World} {b6 : Nat} {l : List MH} {bl : List (List UInt8)} {E : Edg} {fr : Int} {o : List Nat} {k : Nat} {v : Value} {q : List Ern} (h : GrI W1 wr b6 l bl E fr o k v q) (hb : Below wr.heap.size wr wr') : GrI W1 wr' b6 l bl E fr o k v q := ⟨h.r, h.m, h.f.thenB hb h.f.size, owns_below h.o hb, h.b.keep hb⟩
set_option maxRecDepth 100000 in
set_option maxHeartbeats 2000000 in
theorem greedy_any (D : Des) (ns : List Nod) (es : List Nd) (ja : Option Addr) (jc : Nat) (l : List MH) (fr : Int) (bl : List (List UInt8)) (E : Edg) (w : World) (h : SchIn w D ns es (.slice ja l.length jc) l fr bl E) :
    Calls Tryz.prog 7 #[.agg (desA D), .slice ja l.length jc, .int .i64 fr] w fun e w' => ∃ v q, e = .returned (.tuple #[v, .int .i64 0]) ∧ SEn w' v q ∧ Reach (hl l) (BefJ l bl E) fr q ∧ q.length = l.length ∧ Below w.heap.size w w' := by
  have HIN := Lib.hid h
  have HNH := Lib.hid (fun w' (hb : Below w.heap.size w w') => newHall_any D ns es ja jc l fr bl E w' (h.keep hb))
  have hlen := h.hJ.few
  rw [hl_len] at hlen
  have HORD : Hid (OrdOK (hl l) (BefJ l bl E) (OrdL l bl E)) := by
    have h3 := HIN.out
    exact ordJ_ok h3.hJ.ok (by rw [← h3.hbl]; exact h3.hd) h3.hJ.blk (topo_w _ _ _) h3.ht
  clear h
  obtain ⟨W0, HO0, HB0, HW0, HZ0⟩ := boxD w D
  obtain ⟨W1, hW1⟩ : ∃ W1, W0.alloc (.cells #[.slice none 0 0] 40) = W1 := ⟨_, rfl⟩
  have HO1 : Hid (ObjAt W1 w.heap.size (desA D) 28) := by show ObjAt ..; rw [← hW1]; exact HO0.out.alloc _
  have HB1 : Hid (Below w.heap.size w W1) := by show Below ..; rw [← hW1]; exact HB0.out.alloc (Nat.le_of_lt HZ0.out) _
  have HQ1 : Hid (ObjAt W1 W0.heap.size #[.slice none 0 0] 40) := by show ObjAt ..; rw [← hW1]; exact ObjAt.new _ _ _
  have HW1 := Lib.hid hW1
  clear hW1 HO0 HB0
  unfold desA at HNH ⊢
  go_enter Tryz.func7, Tryz.ntmps7
  go_upto_region 1 with fail
  rw [HW0.out, HW1.out]
  have hsz : W0.heap.size = w.heap.size + 1 := by rw [← HW0.out]; simp
  rw [hsz] at HQ1
  obtain ⟨b6, hb6⟩ : ∃ b6, w.heap.size + 1 = b6 := ⟨_, rfl⟩
  have HZ : Hid (w.heap.size ≤ b6) := by show _ ≤ _; omega
  rw [hb6] at HQ1 ⊢
  clear HW0 HW1 HZ0 hsz hb6
  obtain ⟨c0, c1, c2, c3, c4, c5⟩ := desC HO1.out
  go_wp2_with fail
  refine (HNH.out W1 HB1.out).mono ?_
  rintro e w2 ⟨hb, bv, ov, rfl, hw, h1⟩
  have HB2 := Lib.hid (ext_trans HB1.out h1)
  have HQ2 := Lib.hid (HQ1.out.keep h1)
  have HH : Hid (HallJ w2 hb ja jc l fr bv ov bl E) := ⟨hw, HIN.out.hj.keep HB2.out, HIN.out.hc.keep HB2.out⟩
  clear c0 c1 c2 c3 c4 c5 h1 hw HNH HQ1 HO1 HB1
  obtain ⟨W3, hW3⟩ : ∃ W3, w2.alloc (.cells #[.pointer (some ⟨hb, 0, none⟩)] 61) = W3 := ⟨_, rfl⟩
  have HO8 : Hid (ObjAt W3 w2.heap.size #[.pointer (some ⟨hb, 0, none⟩)] 61) := by show ObjAt ..; rw [← hW3]; exact ObjAt.new _ _ _
  have h23 : Below w2.heap.size w2 W3 := by rw [← hW3]; exact (Below.refl _ _).alloc (Nat.le_refl _) _
  have HH3 := Lib.hid (HH.out.keep h23)
  have HQ3 := Lib.hid (HQ2.out.keep h23)
  have HB3 := Lib.hid (ext_trans HB2.out h23)
  have HW3 := Lib.hid hW3
  clear hW3 h23 HH HQ2 HB2
  go_upto_region 4 with fail
  rw [HW3.out]
  clear HW3
  generalize w2.heap.size = b8 at *
  have c8 : W3.cell? ⟨b8, 0, none⟩ = some (.pointer (some ⟨hb, 0, none⟩)) := HO8.out.cell 0
  have c3 := HH3.out.hw.c.c3
  obtain ⟨oa, oc, rfl, o1, o2, o3⟩ := HH3.out.hw.o
  rw [natI_len] at o1 o3 c3 HH3
  obtain ⟨o, ho⟩ : ∃ o, OrdL l bl E = o := ⟨_, rfl⟩
  have HOE := Lib.hid ho
  rw [ho] at HORD o1 o3 c3 HH3
  have O3 : Hid (∀ k (hk : k < o.length), ∃ b off, oa = some ⟨b, off, none⟩ ∧ W3.cell? ⟨b, off + k, none⟩ = some (.int .i64 (o[k]'hk : Nat))) := fun k hk => by
    obtain ⟨b, off, e, c⟩ := o3 k hk
    refine ⟨b, off, e, c.trans ?_⟩
    show some (Value.int .i64 (gi (natI o) k)) = _
    rw [gi_natI hk]
  have HOL : Hid (o.length = l.length) := by show _ = _; rw [HORD.out.len, hl_len]
  have hol : o.length ≤ 64 := by have := HOL.out; omega
  clear o3 ho
  go_wp2_with fail
  clear c8 c3
  go_loopw [27] (fun n wr => ∃ k : Nat, k ≤ o.length ∧ n = .int .i64 k ∧ Hid (∃ v q, GrI W3 wr b6 l bl E fr o k v q)) (fun n _ => o.length - (intOf n).toNat)
  case atStart => exact ⟨0, Nat.zero_le _, rfl, ⟨_, [], .nil, rfl, FrV.refl _ _ _, OwnEn_nil _ _, HQ3.out⟩⟩
  case round =>
    obtain ⟨k, hk, rfl, hG⟩ := hrel
    obtain ⟨v, q, hG⟩ := hG.out
    have HG := Lib.hid hG
    clear hG
    by_cases hlt : k < o.length
    · obtain ⟨b, off, rfl, hc⟩ := O3.out k hlt
      have hc' := frv_at HG.out.f hc (Nat.le_refl _) (ne_nilvar HQ3.out hc (by intro e; cases e))
      have hil : o[k] < l.length := by have := HORD.out.lt _ (List.getElem_mem hlt); rw [hl_len] at this; exact this
      have HIL := Lib.hid hil
      obtain ⟨i, hi⟩ : ∃ i, o[k] = i := ⟨_, rfl⟩
      have HI : Hid (o[k] = i) := hi
      rw [hi] at hc' hil
      clear hc hi
      obtain ⟨ua, uc, rfl, _⟩ := OwnEn.s HG.out.o
      obtain ⟨W4, hW4⟩ : ∃ W4, wr.alloc (.cells #[.int .i64 (i : Nat)] 3) = W4 := ⟨_, rfl⟩
      have h34 : Below wr.heap.size wr W4 := by rw [← hW4]; exact (Below.refl _ _).alloc (Nat.le_refl _) _
      have HO10 : Hid (ObjAt W4 wr.heap.size #[.int .i64 (i : Nat)] 3) := by show ObjAt ..; rw [← hW4]; exact ObjAt.new _ _ _
      have HG4 := Lib.hid (HG.out.below h34)
      have HW4 := Lib.hid hW4
      have HB10 : Hid (W3.heap.size ≤ wr.heap.size) := HG.out.f.size
      clear hW4 h34
      go_upto_region 7 with fail
      rw [HW4.out]
      clear HW4 hc' HG
      generalize wr.heap.size = b10 at *
      have HH4 := Lib.hid (HH3.out.frv HQ3.out HG4.out.f)
      obtain ⟨ja', jc', e, _, _, j3⟩ := HH4.out.j
      cases e
      obtain ⟨jb, jo, rfl, hcj⟩ := j3 i hil
      obtain ⟨va, vc, hav, hsz⟩ := HH4.out.c.form hil
      have c10 : W4.cell? ⟨b10, 0, none⟩ = some (.int .i64 (i : Nat)) := HO10.out.cell 0
      obtain ⟨c0, c1, c2⟩ := hcj
      rw [hav] at c2
      have HSZ := Lib.hid hsz
      have i1 : (i : Int) < l.length := by omega
      clear j3 hsz hav
      have HR := HG4.out.r
      have HJR := Lib.hid HIN.out.hJ
      have HF0 := Lib.hid HIN.out.f0; have HF1 := Lib.hid HIN.out.f1
      have HC8 := Lib.hid (HG4.out.f.objN HO8.out HO8.out.lt (obj_ne HO8.out HQ3.out (by decide)))
      have HCN : Hid ((mhi l i).h.cranes ≠ []) := HJR.out.ok.cr _ (by unfold hl; exact List.mem_map_of_mem (mhi_mem hil))
      go_wp2_with fail
      refine (minFunc_any _ _ (fun _ => True) (fun x y => startF (hl l) (BefJ l bl E) fr q i x - startF (hl l) (BefJ l bl E) fr q i y) (mhi l i).h.cranes W4 HSZ.out HCN.out (fun _ _ => trivial) ⟨27, #[.pointer (some ⟨b8, 0, none⟩), .pointer (some ⟨b6, 0, none⟩), .pointer (some ⟨b10, 0, none⟩)], rfl, enter_greedyC, fun x y u _ _ hu =>
        greedyC_any hb _ jc l fr bv _ bl E ua uc q i x y b8 b6 b10 u (HH4.out.keep hu) ((OwnEn.s HG4.out.o).keep hu) (reach_in HJR.out.ok HR) hil (fun c => reach_st HJR.out HF0.out HF1.out HR hil c) ((HC8.out.keep hu).cell 0) ((HG4.out.b.keep hu).cell 0) ((HO10.out.keep hu).cell 0)⟩).mono ?_
      rintro e w5 ⟨c, hcm, rfl, h5⟩
      have HG5 := Lib.hid (HG4.out.below h5)
      have HO5 := Lib.hid (HO10.out.keep h5)
      have HCM := Lib.hid hcm
      have HNE : Hid (b10 ≠ b6) := by show _ ≠ _; have := HQ3.out.lt; have := HB10.out; omega
      clear h5 HG4 HO10 HC8 HH4 HSZ HCN c0 c1 c2 c10 hcm
      go_upto_region 8 with fail
      refine wp_region_gr sqT sqT_ok [⟨b8, 0, [.pointer (some ⟨hb, 0, none⟩)]⟩, ⟨b10, 0, [.int .i64 (i : Nat)]⟩, ⟨b6, 0, [.slice ua q.length uc]⟩] [(8, 0), (10, 1), (6, 2)] [] [] 5 6 7 8 43 44 45 6 38 29 [39, 40, 41, 42] [.pointer (some ⟨hb, 0, none⟩), .slice ua q.length uc, .int .i64 (i : Nat), .string (bs c)] (planned (hl l) (BefJ l bl E) fr q i c) q (.slice ua q.length uc) W3.heap.size b6 (fun u => FrV W3.heap.size (blkV b6) W3 u ∧ ObjAt u b10 #[.int .i64 (i : Nat)] 3)
        (by kernel_rfl) mixed (by kernel_rfl) (by kernel_rfl) (by kernel_rfl) (by decide) ⟨_, _, rfl, rfl, rfl, rfl, rfl⟩ ⟨_, rfl, rfl, rfl, ⟨5, .data⟩, by simp, rfl, rfl⟩ ⟨_, rfl, rfl, rfl, ⟨6, .data⟩, by simp, rfl, rfl⟩ ⟨_, rfl, rfl, rfl, ⟨7, .data⟩, by simp, rfl, rfl⟩ enter_planned
        (fun u hu ho _ => planned_any hb _ jc l fr bv _ bl E _ q i c u (HH3.out.frv HQ3.out hu.1) (OwnEn.s ho) (reach_in HJR.out.ok HR) hil (reach_st HJR.out HF0.out HF1.out HR hil c))
        ⟨HG5.out.f.thenB (Below.refl _ _).drew HG5.out.f.size, HO5.out⟩ HG5.out.o HG5.out.f.size HG5.out.b (by have := HR.len HJR.out.ok; rw [hl_len] at this; omega)
        (fun u u' h hb => ⟨h.1.thenB hb h.1.size, h.2.keep hb⟩) (fun u u' h hn ho hg => ⟨h.1.grownY hg (fun r hr => (OwnEn.lt ho r hr).1) hn, h.2.grown hg (h.2.ne ho (by decide))⟩) (fun u v h => ⟨h.1.cmp (setCell_frv (n := W3.heap.size)) (Nat.le_refl _), h.2.other HNE.out _ _⟩)
        (obsC (fun u hu => range_new (hu.1.1.objN HO8.out HO8.out.lt (obj_ne HO8.out HQ3.out (by decide)))) (obsC (fun u hu => range_new hu.1.2) (obsC (fun u hu => range_new hu.2) obsN))) ⟨rfl, rfl, rfl, trivial⟩ ?_
      conv => whnf
      refine And.intro ⟨⟨rfl, rfl, rfl, rfl, trivial⟩, rfl, ⟨rfl, rfl⟩⟩ ?_
      intro f1
      conv => whnf
      intro w6 v6 hc6 ho6 hn6 hb6
      have hRN := reach_next HJR.out HORD.out HR hlt HG5.out.m (c := c) (by rw [show o[k] = i from HI.out]; exact HCM.out)
      rw [show o[k] = i from HI.out] at hRN
      have HX : Hid (∃ v q, GrI W3 w6 b6 l bl E fr o (k + 1) v q) := ⟨_, _, hRN.1, hRN.2, hc6.1, ho6, hb6⟩
      clear hRN hc6 ho6 hb6 hn6 HG5 HO5
      go_wp2_with fail
      go_roundw
      case rel => exact ⟨k + 1, by omega, by go_num, HX⟩
      case measure => simp [intOf]; omega
    · obtain rfl : k = o.length := by omega
      obtain ⟨ua, uc, rfl, _⟩ := OwnEn.s HG.out.o
      have c6 : wr.cell? ⟨b6, 0, none⟩ = some (.slice ua q.length uc) := HG.out.b.cell 0
      have c6f := HG.out.b.frozen 0
      go_wp2_with fail
      have ho := HG.out.b.set 0 (.slice ua q.length uc)
      have hw := HG.out.b.rowSet HG.out.o (by decide) 0 (.slice ua q.length uc)
      have hlq : q.length = l.length := by
        have := congrArg List.length HG.out.m
        rw [List.length_map, List.length_map, List.length_take, HOL.out] at this
        omega
      refine bodyPost_ret (v := .tuple #[.slice ua q.length uc, .int .i64 0]) (results_cell2 Tryz.results7 rfl rfl (loadVar_of (agg_of Tryz.underlying40 rfl) _ _ _ (ho.cell 0))) rfl ⟨_, q, rfl, OwnEn.s hw, HG.out.r, hlq, ?_⟩
      exact below_setCell (HB3.out.trans (HG.out.f.belowN HZ.out HB3.out.size)) HZ.out _ _
end Go.Proofs.YtfpnjbomlmhlpaaGreat

/- slices.Backward of integers. -/
namespace Go.Proofs.YtfpnjbomlmhlpaaGreat
open Go.RowKit
attribute [local go_sem] Oper.semAt_some

/-- those with r left, from behind -/
def backL (n r : Nat) : List (Fin n) := ((List.finRange n).drop r).reverse
theorem backL_all (n : Nat) : backL n n = [] := by unfold backL; rw [List.drop_eq_nil_of_le (by simp)]; rfl
theorem backL_next {n r : Nat} (h : r < n) : backL n r = backL n (r + 1) ++ [⟨r, h⟩] := by
  unfold backL
  rw [List.drop_eq_getElem_cons (by simpa using h), List.reverse_cons]
  congr 2
  simp
theorem backL_len (n r : Nat) : (backL n r).length = n - r := by unfold backL; simp
theorem backL_nd (n : Nat) : (backL n 0).Nodup := by
  unfold backL
  rw [List.drop_zero, List.nodup_iff_pairwise_ne, List.pairwise_reverse, List.pairwise_iff_getElem]
  intro i j hi hj hij
  simp [Fin.ext_iff]
  omega
theorem Backward_any (a : Option Addr) (n c : Nat) (w : World) : Calls Tryz.prog 44 #[.slice a n c] w fun e w' => e = .returned (.func (.func 85) #[] #[.pointer (some ⟨w.heap.size, 0, none⟩)]) ∧ w' = w.alloc (.cells #[.slice a n c] 65) := by
  go_enter Tryz.func44, Tryz.ntmps44
  go_wp2
  go_ret
  exact ⟨rfl, rfl⟩
set_option maxRecDepth 100000 in
set_option maxHeartbeats 2000000 in
theorem back_in (fr : Nat) (hn : 1 ≤ fr) (l Bs : Nat) (a : Option Addr) (cap : Nat) (o : List Nat) (hlen : o.length ≤ 100000) (Kp : World → World → Prop) (hKt : ∀ {A B C : World}, Kp A B → Kp B C → Kp A C) (J Jx : List (Fin o.length) → World → Prop)
    (hY : ∀ pre (x : Fin o.length) W, J pre W → pre.length < o.length → YieldAt Fence.wide (fr - 1) Tryz.prog l #[.int .i64 (x.1 : Nat), .int .i64 (o[x.1] : Nat)] W fun e W' =>
      (e = .returned (.bool true) ∧ J (pre ++ [x]) W' ∧ Kp W W') ∨ (e = .returned (.bool false) ∧ Jx (pre ++ [x]) W'))
    (W : World) (hKr : Kp W W) (hc : ∀ W', Kp W W' → W'.cell? ⟨Bs, 0, none⟩ = some (.slice a o.length cap) ∧ ∀ k (hk : k < o.length), ∃ b off, a = some ⟨b, off, none⟩ ∧ W'.cell? ⟨b, off + k, none⟩ = some (.int .i64 (o[k] : Nat))) (h0 : J [] W) :
    CallsIn Fence.wide fr Tryz.prog 85 #[.func (.yield l) #[] #[], .pointer (some ⟨Bs, 0, none⟩)] W fun e W' => (∃ v, e = .returned v) ∧
      ((∃ xs, xs = backL o.length 0 ∧ J xs W') ∨ (∃ pre, True ∧ Jx pre W')) := by
  have HC := Lib.hid hc; clear hc
  have hcs := (HC.out W hKr).1
  have w4 : IntKind.i64.wrap ((o.length : Int) - 1) = (o.length : Int) - 1 := IntWalk.i64_in _ (by omega)
  refine callsIn_of_wp Tryz.func85 rfl trivial ?_ rfl
  simp only [Tryz.ntmps85, List.size_toArray, List.length_cons, List.length_nil, Nat.reduceAdd, Nat.reduceSub, Array.replicate_succ, Array.replicate_zero, List.push_toArray, List.append_toArray, List.nil_append, List.cons_append]
  gi_wp2
  clear hcs
  gi_loopw [3] (fun i wr => ∃ r : Nat, r ≤ o.length ∧ i = .int .i64 ((r : Int) - 1) ∧ J (backL o.length r) wr ∧ Kp W wr) (fun i _ => (intOf i + 1).toNat)
  case atStart => exact ⟨o.length, Nat.le_refl _, rfl, by rw [backL_all]; exact h0, hKr⟩
  case round =>
    obtain ⟨r, hr, rfl, hJ, hK⟩ := hrel
    by_cases h0 : 0 < r
    · obtain ⟨i, rfl⟩ : ∃ i, r = i + 1 := ⟨r - 1, by omega⟩
      have ei : ((i + 1 : Nat) : Int) - 1 = (i : Int) := by omega
      rw [ei]
      have hi : i < o.length := by omega
      obtain ⟨c0, cx⟩ := HC.out wr hK
      obtain ⟨b, off, rfl, c1⟩ := cx i hi
      have i1 : (i : Int) < o.length := by omega
      have i2 : (0 : Int) ≤ i := by omega
      have w5 : IntKind.i64.wrap ((i : Int) - 1) = (i : Int) - 1 := IntWalk.i64_in _ (by omega)
      have hy := hY _ ⟨i, hi⟩ wr hJ (by rw [backL_len]; omega)
      obtain ⟨fn, tmps, assign, body, hy, hR⟩ := hy
      clear cx
      gi_wp2
      refine hR.mono ?_
      rintro e W3 (⟨rfl, hJ3, hk3⟩ | ⟨rfl, hJx3⟩)
      · gi_wp2
        go_roundw
        case rel => exact ⟨i, by omega, by go_num, by rw [backL_next hi]; exact hJ3, hKt hK hk3⟩
        case measure => simp [intOf]
      · gi_wp2
        refine bodyPost_ret (results_none rfl _ _ _) rfl ?_
        exact ⟨⟨_, rfl⟩, .inr ⟨_, trivial, hJx3⟩⟩
    · obtain rfl : r = 0 := by omega
      rw [show ((0 : Nat) : Int) - 1 = -1 from rfl]
      gi_wp2
      go_end0
      exact ⟨⟨_, rfl⟩, .inl ⟨_, rfl, hJ⟩⟩
end Go.Proofs.YtfpnjbomlmhlpaaGreat

/- A drawn region in a round of a range over a function: the laws of operations serve as they stand. -/
namespace Go.Proofs.YtfpnjbomlmhlpaaGreat
open Go.RowKit

/-- an operation that is no defer statement is carried out in a round as everywhere -/
theorem op_in {P : Program} {o : Oper} {a : Act} {w : World} {K : Act → World → Prop} {Q : Exit → Act → World → Prop} (l n : Nat) (hd : ∀ c, o.op ≠ .defer c) (h : o.wp P a w K Q) : o.wpIn (Fence.wide.inRound l) n P a w K Q := by
  refine ⟨fun _ _ => trivial, ?_⟩
  rw [show (Fence.wide.inRound l).round = some l from rfl, Oper.semAt_eq _ _ _ hd]
  unfold Oper.wp at h
  generalize (execOp a.eval o).run P w = r at *
  cases r with
  | ok x w' =>
    cases x with
    | value v => exact h
    | skip => exact h
    | defer d => exact h
    | enter f args => exact ⟨fun e => (by cases e), (callsIn_wide.2 h).inRound l⟩
    | row row args => exact ⟨fun e => (by cases e), fun c cs _ => let ⟨v, w'', r, s⟩ := h c cs; ⟨v, w'', r, stepsIn_wide.2 s⟩⟩
    | _ => exact h.elim
  | halt x w' => cases x <;> exact h
section
variable {P : Program} {ops : Array Oper} {Q : Exit → Act → World → Prop} {F : Fence} {n : Nat}
theorem wpOpIn_step' {i : Nat} {o : Oper} {a : Act} {w : World} {K0 : Act → World → Prop} (ho : ops[i]? = some o)
    (h : ∀ K : Act → World → Prop, (∀ a' w', K0 a' w' → K a' w') → if Region.wanted o (yielded ops a.tmps) = true then Oper.wpIn F n P o a w K Q else (∀ f, o.about P w a.eval = some f → F.fn f) ∧ K (a.put o.dst undef) w) : wpOpIn F n P ops Q i K0 a w := by
  have := h K0 (fun _ _ h => h)
  unfold wpOpIn
  rw [ho]
  dsimp only
  by_cases hw : Region.wanted o (yielded ops a.tmps) = true
  · rw [if_pos hw] at this ⊢; exact this
  · rw [if_neg hw] at this ⊢; exact this
theorem wpAnyIn_inv (ho : ordB ops = true) (I : (Nat → Bool) → Act → World → Prop)
    (step : ∀ i o L a w, ops[i]? = some o → L i = false → (∀ e ∈ o.after, Region.binds .any e = true → L e.on = true) → ClosedL ops L → I L a w →
      ∀ K : Act → World → Prop, (∀ a' w', I (updL L i) a' w' → K a' w') → if Region.wanted o (yielded ops a.tmps) = true then Oper.wpIn F n P o a w K Q else (∀ f, o.about P w a.eval = some f → F.fn f) ∧ K (a.put o.dst undef) w)
    (done : ∀ L a w, (∀ i, i < ops.size → L i = true) → I L a w → Q .normal a w) :
    ∀ fuel listed a w, listed.size = ops.size → listed.toList.count false ≤ fuel → ClosedL ops (lst listed) → I (lst listed) a w → wpAnyIn F n P .any ops Q fuel listed a w := by
  intro fuel
  induction fuel with
  | zero =>
    intro listed a w hs hc hcl hI
    have hall : ∀ i, i < ops.size → lst listed i = true := by
      intro i hi
      cases hl : lst listed i
      · exfalso
        have hi' : i < listed.size := by omega
        have : false ∈ listed.toList := by
          unfold lst at hl
          simp [hi'] at hl
          rw [← hl]; simp
        have := List.count_pos_iff.2 this
        omega
      · rfl
    refine ⟨?_, done _ a w hall hI⟩
    refine List.eq_nil_iff_forall_not_mem.2 fun i hi => ?_
    obtain ⟨h1, o, h2, _⟩ := mem_ready.1 hi
    have hi' : i < ops.size := (Array.getElem?_eq_some_iff.1 h2).1
    have h3 := hall i hi'
    unfold lst at h3
    have hi'' : i < listed.size := by omega
    simp [hi''] at h1 h3
    rw [h3] at h1; cases h1
  | succ fuel ih =>
    intro listed a w hs hc hcl hI
    refine ⟨fun h => done _ a w (ready_none ho hs h) hI, fun i hi => ?_⟩
    obtain ⟨h1, o, h2, h3⟩ := mem_ready.1 hi
    have hi' : i < ops.size := (Array.getElem?_eq_some_iff.1 h2).1
    have hil : i < listed.size := by omega
    have h1' : listed[i] = false := by simpa [hil] using h1
    refine wpOpIn_step' h2 fun K hK => step i o (lst listed) a w h2 ?_ h3 hcl hI K fun a' w' hI' => hK a' w' (ih _ a' w' (by simpa using hs) ?_ ?_ ?_)
    · unfold lst; simp [hil, h1']
    · have hcs := List.count_set (l := listed.toList) (i := i) (a := true) (b := false) (by simpa using hil)
      have hp : 0 < listed.toList.count false := List.count_pos_iff.2 (by
        have := List.getElem_mem (l := listed.toList) (n := i) (by simpa using hil)
        rw [Array.getElem_toList, h1'] at this; exact this)
      simp [h1'] at hcs
      simp only [Array.toList_setIfInBounds]
      have e : (listed.toList.set i true).count false = listed.toList.count false - 1 := by rw [hcs]; simp
      omega
    · rw [lst_set hil]; exact hcl.upd h2 h3
    · rw [lst_set hil]; exact hI'
/-- the law in a round: operations by their plain laws -/
theorem wpIn_region_inv {id l : Nat} {a : Act} {w : World} (hm : P.follows .mixedOrders = true) (ho : ordB ops = true) (hdf : (ops.all fun o => match o.op with | .defer _ => false | _ => true) = true) (I : (Nat → Bool) → Act → World → Prop)
    (h0 : I (fun _ => false) a w.drew)
    (step : ∀ i o L a w, ops[i]? = some o → L i = false → (∀ e ∈ o.after, Region.binds .any e = true → L e.on = true) → ClosedL ops L → I L a w →
      ∀ K : Act → World → Prop, (∀ a' w', I (updL L i) a' w' → K a' w') → if Region.wanted o (yielded ops a.tmps) = true then Oper.wp P o a w K Q else K (a.put o.dst undef) w)
    (done : ∀ L a w, (∀ i, i < ops.size → L i = true) → I L a w → Q .normal a w) : (Code.region id ops true).wpIn (Fence.wide.inRound l) n P Q a w := by
  have e : lst (Array.replicate ops.size false) = fun _ => false := by
    funext j
    unfold lst
    rcases Nat.lt_or_ge j ops.size with h | h
    · simp [h]
    · simp [h]
  refine wpIn_region_any hm (wpAnyIn_inv ho I (fun i o L a w hop hL hd hcl hI K hK => ?_) done _ _ _ _ (by simp) (by simp) ?_ ?_)
  · have st := step i o L a w hop hL hd hcl hI K hK
    by_cases hw : Region.wanted o (yielded ops a.tmps) = true
    · rw [if_pos hw] at st ⊢
      refine op_in l n (fun c hc => ?_) st
      have := (Array.all_eq_true'.1 hdf) o (Array.mem_of_getElem? hop)
      rw [hc] at this
      cases this
    · rw [if_neg hw] at st ⊢
      exact ⟨fun _ _ => trivial, st⟩
  · rw [e]; exact fun _ _ _ h => by cases h
  · rw [e]; exact h0
end
end Go.Proofs.YtfpnjbomlmhlpaaGreat

/- Contract: Bound of schedules. -/
namespace Go.Proofs.YtfpnjbomlmhlpaaGreat
open Go.RowKit
attribute [local go_sem] Oper.semAt_some

theorem RegI.wpIn {P : Program} {ops : Array Oper} {Q : Exit → Act → World → Prop} {a : Act} {w : World} {id l n : Nat} (h : RegI P ops Q a w) (hm : P.follows .mixedOrders = true) (ho : ordB ops = true) (hdf : (ops.all fun o => match o.op with | .defer _ => false | _ => true) = true) : (Code.region id ops true).wpIn (Fence.wide.inRound l) n P Q a w := by
  obtain ⟨I, h0, h1, h2⟩ := h
  exact wpIn_region_inv hm ho hdf I h0 h1 h2
section
variable {a0 : Act} {ps : List (Nat × Nat)} {T : QTab} {E : List Ob} {hs : List (Nat × Hint)}
/-- as reg_st, where all others are ahead of the store: they see what is there before it -/
theorem reg_st2 {Q : Exit → Act → World → Prop} {w : World} {ops : List Oper} (T : QTab) (hT : T.Ok) (E : List Ob) (C : World → Prop) (R : World → World → Prop) (ps : List (Nat × Nat)) (hs : List (Nat × Hint)) (outs : List (Nat × Value))
    (A nP nX : Nat) (ty : TypeId) (p x : Value) (Pre Post : World → Prop)
    (hz : (ops.all fun o => match o.dst with | some n => decide (n < a0.tmps.size) | none => true) = true)
    (hst : (ordB ops.toArray && nodB (dstsL ops) && chkB ops.toArray (quietL [A] 0 ops) && depB [A] ops.toArray) = true)
    (hsp : spD [A] 0 ops = []) (hah : aheadB [A] ops A = true)
    (hA : ∃ o, ops[A]? = some o ∧ o.op = .store ty (.tmp nP) (.tmp nX) ∧ o.dst = none)
    (hC : C w.drew) (hPre : Pre w.drew) (hR : ∀ u u', C u → R u u' → C u') (hRd : ∀ u, C u → R u u)
    (hPreR : ∀ u u', C u → Pre u → R u u' → Pre u') (hPostR : ∀ u u', C u → Post u → R u u' → Post u')
    (hstore : ∀ u, C u → Pre u → ∃ u', (Instr.storeAt ty p x).run Tryz.prog u = .ok () u' ∧ C u' ∧ Post u')
    (hE : ObsIn (fun u => C u ∧ Pre u) E) (P : psOk a0 E ps)
    (h : evL a0 ps T E (fun u => C u ∧ Pre u) R hs ops (evSt a0 E C ops nP nX p x Post outs (Q .normal)) (quietL [A] 0 ops) []) : RegI Tryz.prog ops.toArray Q a0 w := by
  obtain ⟨oA, hA1, hA2, hA3⟩ := hA
  have hst' := hst
  simp only [Bool.and_eq_true] at hst'
  obtain ⟨⟨⟨s1, s2⟩, s3⟩, s4⟩ := hst'
  have hsub : ∀ o ∈ quietL [A] 0 ops, o ∈ ops := fun o ho => by obtain ⟨k, hk, _⟩ := mem_quietL ho; exact List.mem_of_getElem? hk
  obtain ⟨S, H, af, I, ⟨⟨h1, h1'⟩, h2⟩, f1, f2, f3⟩ := evL_fin P hT hE hz _ [] [] a0 hsub s3 InvQ.start h
  refine mix_coreI [A] E C R outs (JST A Pre Post) hz hst (fun u => C u ∧ Pre u) (fun i hi hs L s u hL hl hn hc hj => ⟨hc, hj.1 (hn A (ahead_spec hah hi hs hL hl))⟩) hC ⟨fun _ => hPre, fun v hv => (by cases hv)⟩ hR hRd (fun s u u' g1 g2 g3 => ⟨fun hn => hPreR u u' g1 (g2.1 hn) g3, fun v hv => hPostR u u' g1 (g2.2 v hv) g3⟩) I ⟨⟨?_, trivial⟩, fun f s hsv => ?_⟩ f1 f2 f3
  · intro o a u s ho hCu hJ hn hq hold hdep K hK
    rw [hA1] at ho; cases ho
    have val : ∀ n v, slotAt a0 E ops S n v → n ∈ oA.looksAt ops.toArray → a.eval (.tmp n) = v := by
      intro n v hs hl
      unfold slotAt at hs
      split at hs
      · rename_i m s' hl'
        rw [← hs]; exact hq n hl _ hl' rfl
      · cases hs
      · rw [hold n (by simpa using hs.1)]; exact hs.2
    have e1 := val nP p h1 (by unfold Oper.looksAt; rw [hA2]; simp [Op.operands])
    have e2 := val nX x h1' (by unfold Oper.looksAt; rw [hA2]; simp [Op.operands])
    obtain ⟨u', r1, r2, r3⟩ := hstore u hCu (hJ.1 hn)
    refine wp_of_skip (w' := u') ?_ ?_
    · unfold execOp
      simp only [hA2, Sem.run_bind, e1, e2, r1]; rfl
    · refine hK _ _ r2 ⟨fun h => (by rw [updS_same] at h; cases h), fun v hv => r3⟩
  · obtain ⟨v, v1, _⟩ := hsv A (by simp) oA hA1
    obtain ⟨⟨l⟩, d⟩ := a0
    dsimp only at h2 ⊢
    rw [hsp]
    refine finS_mono (fun l' hl' => ?_) (h2 f)
    unfold setsN
    intro w' hC' hJ
    exact hl' w' hC' (hJ.2 v v1)
end
section
variable {a0 : Act} {ps : List (Nat × Nat)} {T : QTab} {E : List Ob} {hs : List (Nat × Hint)}
def evMu (a0 : Act) (E : List Ob) (C : World → Prop) (ops : List Oper) (nM nK nX : Nat) (m k x : Value) (Post : World → Prop) (outs : List (Nat × Value)) (Q : Act → World → Prop) (S : List Ent) : Prop :=
  (slotAt a0 E ops S nM m ∧ slotAt a0 E ops S nK k ∧ slotAt a0 E ops S nX x) ∧ ∀ (f : Nat → Value), match a0 with
    | ⟨⟨l⟩, d⟩ => finS E outs f S l fun l' => ∀ w', C w' → Post w' → Q ⟨l'.toArray, d⟩ w'
/-- one update of a map; all others are ahead of it -/
theorem wp_region_mu {id : Nat} {Q : Exit → Act → World → Prop} {w : World} {ops : List Oper} (T : QTab) (hT : T.Ok) (E : List Ob) (C : World → Prop) (R : World → World → Prop) (ps : List (Nat × Nat)) (hs : List (Nat × Hint)) (outs : List (Nat × Value))
    (A nM nK nX : Nat) (ty : TypeId) (m k x : Value) (Pre Post : World → Prop)
    (hz : (ops.all fun o => match o.dst with | some n => decide (n < a0.tmps.size) | none => true) = true) (hm : Tryz.prog.follows .mixedOrders = true)
    (hst : (ordB ops.toArray && nodB (dstsL ops) && chkB ops.toArray (quietL [A] 0 ops) && depB [A] ops.toArray) = true)
    (hsp : spD [A] 0 ops = []) (hah : aheadB [A] ops A = true)
    (hA : ∃ o, ops[A]? = some o ∧ o.op = .mapUpdate ty (.tmp nM) (.tmp nK) (.tmp nX) ∧ o.dst = none)
    (hC : C w.drew) (hPre : Pre w.drew) (hR : ∀ u u', C u → R u u' → C u') (hRd : ∀ u, C u → R u u)
    (hPreR : ∀ u u', C u → Pre u → R u u' → Pre u') (hPostR : ∀ u u', C u → Post u → R u u' → Post u')
    (hstore : ∀ u, C u → Pre u → ∃ u', (Instr.mapUpdate ty m k x).run Tryz.prog u = .ok () u' ∧ C u' ∧ Post u')
    (hE : ObsIn (fun u => C u ∧ Pre u) E) (P : psOk a0 E ps)
    (h : evL a0 ps T E (fun u => C u ∧ Pre u) R hs ops (evMu a0 E C ops nM nK nX m k x Post outs (Q .normal)) (quietL [A] 0 ops) []) : (Code.region id ops.toArray true).wp Tryz.prog Q a0 w := by
  obtain ⟨oA, hA1, hA2, hA3⟩ := hA
  have hst' := hst
  simp only [Bool.and_eq_true] at hst'
  obtain ⟨⟨⟨s1, s2⟩, s3⟩, s4⟩ := hst'
  have hsub : ∀ o ∈ quietL [A] 0 ops, o ∈ ops := fun o ho => by obtain ⟨k, hk, _⟩ := mem_quietL ho; exact List.mem_of_getElem? hk
  obtain ⟨S, H, af, I, ⟨⟨h1, h1', h1''⟩, h2⟩, f1, f2, f3⟩ := evL_fin P hT hE hz _ [] [] a0 hsub s3 InvQ.start h
  refine mix_coreD [A] E C R outs (JST A Pre Post) hz hm hst (fun u => C u ∧ Pre u) (fun i hi hs L s u hL hl hn hc hj => ⟨hc, hj.1 (hn A (ahead_spec hah hi hs hL hl))⟩) hC ⟨fun _ => hPre, fun v hv => (by cases hv)⟩ hR hRd (fun s u u' g1 g2 g3 => ⟨fun hn => hPreR u u' g1 (g2.1 hn) g3, fun v hv => hPostR u u' g1 (g2.2 v hv) g3⟩) I ⟨⟨?_, trivial⟩, fun f s hsv => ?_⟩ f1 f2 f3
  · intro o a u s ho hCu hJ hn hq hold hdep K hK
    rw [hA1] at ho; cases ho
    have val : ∀ n v, slotAt a0 E ops S n v → n ∈ oA.looksAt ops.toArray → a.eval (.tmp n) = v := by
      intro n v hs hl
      unfold slotAt at hs
      split at hs
      · rename_i m s' hl'
        rw [← hs]; exact hq n hl _ hl' rfl
      · cases hs
      · rw [hold n (by simpa using hs.1)]; exact hs.2
    have e1 := val nM m h1 (by unfold Oper.looksAt; rw [hA2]; simp [Op.operands])
    have e2 := val nK k h1' (by unfold Oper.looksAt; rw [hA2]; simp [Op.operands])
    have e3 := val nX x h1'' (by unfold Oper.looksAt; rw [hA2]; simp [Op.operands])
    obtain ⟨u', r1, r2, r3⟩ := hstore u hCu (hJ.1 hn)
    refine wp_of_skip (w' := u') ?_ ?_
    · unfold execOp
      simp only [hA2, Sem.run_bind, e1, e2, e3, r1]; rfl
    · refine hK _ _ r2 ⟨fun h => (by rw [updS_same] at h; cases h), fun v hv => r3⟩
  · obtain ⟨v, v1, _⟩ := hsv A (by simp) oA hA1
    obtain ⟨⟨l⟩, d⟩ := a0
    dsimp only at h2 ⊢
    rw [hsp]
    refine finS_mono (fun l' hl' => ?_) (h2 f)
    unfold setsN
    intro w' hC' hJ
    exact hl' w' hC' (hJ.2 v v1)
end
open Go.Maps in
/-- a map of sums: at b -/
def AM (w : World) (b n : Nat) (f : List UInt8 → Int) : Prop := ∃ D, w.ownsMap Tryz.prog 9 heldR b n D ∧ Tidy D ∧ ∀ s, D.atKey (.string s) (.held (.int .i64 0)) = .held (.int .i64 (f s))
theorem zero_int (w : World) : (zeroValue 3).run Tryz.prog w = .ok (.int .i64 0) w := by kernel_rfl
section
variable {w w' : World} {b n : Nat} {f : List UInt8 → Int}
open Go.Maps
theorem AM.made (w : World) : AM (w.alloc (.map #[] 0)) w.heap.size 0 fun _ => 0 := ⟨.map [], World.ownsMap_made w _ _ _, tidy_empty, fun _ => rfl⟩
theorem AM.keep (h : AM w b n f) (hb : Below w.heap.size w w') : AM w' b n f := by
  obtain ⟨D, ⟨es, clock, h1, r⟩, h2⟩ := h
  exact ⟨D, ⟨es, clock, by rw [hb.block b (Array.getElem?_eq_some_iff.1 h1).1]; exact h1, r⟩, h2⟩
theorem AM.look (h : AM w b n f) {s : List UInt8} (hs : s.length ≤ maxLen) : (Instr.lookup 93 (.map (some b)) (.string (bs s)) false).run Tryz.prog w = .ok (.int .i64 (f s)) w := by
  obtain ⟨D, h1, h2, h3⟩ := h
  obtain ⟨v, ps, hr, hv⟩ := h1.lookup keyK Tryz.underlying93 (zero_int w) (zd := .held (.int .i64 0)) (zp := []) rfl (key_of hs)
  rw [h3] at hv
  have : v = .int .i64 (f s) := by unfold heldR at hv; simpa using congrArg Prod.fst (Option.some.inj hv)
  rw [hr, this]
theorem AM.store (h : AM w b n f) (hn : n < maxLen) {s : List UInt8} (hs : s.length ≤ maxLen) (z : Int) : ∃ w', (Instr.mapUpdate 93 (.map (some b)) (.string (bs s)) (.int .i64 z)).run Tryz.prog w = .ok () w' ∧ AM w' b (n + 1) (fun t => if t = s then z else f t) ∧ w.mapTurned w' b := by
  obtain ⟨D, h1, h2, h3⟩ := h
  obtain ⟨w', hr, h4, h5⟩ := h1.store keyK Tryz.underlying93 hn (key_of hs) (val := .int .i64 z) (d := .held (.int .i64 z)) (ps := []) rfl
  refine ⟨w', hr, ⟨_, h4, h2.put keyLit _, fun t => ?_⟩, h5⟩
  show _ = DataW.held (Value.int .i64 (if t = s then z else f t))
  by_cases e : t = s
  · subst e; rw [if_pos rfl]; exact atKey_put_same h2.isMap keyLit _ _
  · rw [if_neg e, atKey_put_other (lit_ne e)]; exact h3 t
end
theorem keeps_frv {B g : Nat} {W W' : World} (h : FrV W.heap.size (blkV g) W W') (hg : g < B) : KeepsFrom B W W' := ⟨h.size, fun k o hk h1 _ => (h.block k (Array.getElem?_eq_some_iff.1 h1).1 (fun e => by have e2 : g = k := Option.some.inj e; omega)).trans h1⟩
theorem obj_own {W W' : World} {q : Nat} {xs : Array Value} {e : TypeId} {row : Option Nat} (h : ObjAt W q xs e) (hg : W.grownBy W' row) (hr : ∀ r, row = some r → ∃ o : Obj, W.heap[r]? = some o ∧ o.isCells = false) : ObjAt W' q xs e := by
  refine h.grown hg fun e2 => ?_
  obtain ⟨o, ho, hc⟩ := hr q e2
  rw [show W.heap[q]? = _ from h] at ho
  cases ho; cases hc
theorem tail_zero {J : List Hst} {B : Bef} {fr : Int} (hJ : JobsOK J) (i : Nat) : Tail J B fr i 0 := fun l hl _ x hx _ => by
  have h1 := end_ge hx
  obtain ⟨j, hj, _, _, e3⟩ := ((hl.inv hJ).ent x hx).job
  have h2 := hJ.hr _ (hsi_mem hj)
  omega
/-- the chains so far: at g -/
structure ChI (w4 W : World) (g : Nat) (l : List MH) (bl : List (List UInt8)) (E : Edg) (fr : Int) (o : List Nat) (pre : List (Fin o.length)) (F : Nat → Int) : Prop where
  ob : ObjAt W g (rowA l.length fun v => .int .i64 (F v)) 3
  b : ∀ v, 0 ≤ F v ∧ F v ≤ 10000 * pre.length
  f : FrV w4.heap.size (blkV g) w4 W
  t : pre.Nodup → (∀ i, i < l.length → Tail (hl l) (BefJ l bl E) fr i (F i)) ∧ ∀ x : Fin o.length, x ∉ pre → F o[x.1] = 0
theorem alone_rng {J : List Hst} (hJ : JobsOK J) : ∀ {k : Nat}, k ≤ J.length → ∀ c, 0 ≤ aloneF J k c ∧ aloneF J k c ≤ 10000 * k
  | 0, _, c => by unfold aloneF; simp
  | k + 1, hk, c => by
    obtain ⟨h1, h2⟩ := alone_rng hJ (k := k) (by omega) c
    rw [alone_take (by omega)]
    have h3 := hJ.hr _ (hsi_mem (show k < J.length by omega))
    split <;> omega
theorem FrV.grownB {n b : Nat} {w x y : World} (h : FrV n (blkV b) w x) (g : x.grownBy y (some b)) (hn : n ≤ x.heap.size) : FrV n (blkV b) w y :=
  ⟨g.os.trans h.os, g.tape.trans h.tape, g.output.trans h.output, Nat.le_trans h.size g.size, fun k hk h1 => (g.block k (by omega) (fun e => h1 (by cases e; rfl))).trans (h.block k hk h1)⟩
theorem FrV.low {n m b : Nat} {w x : World} (h : FrV n (blkV b) w x) (hm : m ≤ n) : FrV m (blkV b) w x := ⟨h.os, h.tape, h.output, h.size, fun k hk h1 => h.block k (by omega) h1⟩
theorem row_set1 {u : World} {g n i : Nat} {F : Nat → Int} {c d : Int} (h : ObjAt u g (rowA n fun v => .int .i64 (if v = i then c else F v)) 3) : ObjAt (u.setCell ⟨g, i, none⟩ (.int .i64 d)) g (rowA n fun v => .int .i64 (if v = i then d else F v)) 3 := by
  have := h.set i (.int .i64 d)
  rw [rowA_set] at this
  rw [rowA_congr (g := fun j => if j = i then .int .i64 d else .int .i64 (if j = i then c else F j)) fun v _ => by
    by_cases e : v = i
    · rw [if_pos e, if_pos e]
    · rw [if_neg e, if_neg e, if_neg e]]
  exact this
set_option maxRecDepth 100000 in
set_option maxHeartbeats 2000000 in
theorem bound_any (D : Des) (ns : List Nod) (es : List Nd) (ja : Option Addr) (jc : Nat) (l : List MH) (fr : Int) (bl : List (List UInt8)) (E : Edg) (w : World) (h : SchIn w D ns es (.slice ja l.length jc) l fr bl E) (hcs : ∀ m ∈ l, ∀ c ∈ m.h.cranes, c.length ≤ maxLen) :
    Calls Tryz.prog 13 #[.agg (desA D), .slice ja l.length jc, .int .i64 fr] w fun e w' => ∃ z, e = .returned (.tuple #[.int .i64 z, .int .i64 0]) ∧ (∀ q, Reach (hl l) (BefJ l bl E) fr q → q.length = l.length → q ≠ [] → z ≤ endF q) ∧ Below w.heap.size w w' := by
  have HIN := Lib.hid h
  have HNH := Lib.hid (fun w' (hb : Below w.heap.size w w') => newHall_any D ns es ja jc l fr bl E w' (h.keep hb))
  have hlen := h.hJ.few
  rw [hl_len] at hlen
  have HORD : Hid (OrdOK (hl l) (BefJ l bl E) (OrdL l bl E)) := by
    have h3 := HIN.out
    exact ordJ_ok h3.hJ.ok (by rw [← h3.hbl]; exact h3.hd) h3.hJ.blk (topo_w _ _ _) h3.ht
  clear h
  obtain ⟨W0, HO0, HB0, HW0, HZ0⟩ := boxD w D
  obtain ⟨W1, hW1⟩ : ∃ W1, W0.alloc (.cells #[.slice ja l.length jc] 33) = W1 := ⟨_, rfl⟩
  have hsz : W0.heap.size = w.heap.size + 1 := by rw [← HW0.out]; simp
  have HO1 : Hid (ObjAt W1 w.heap.size (desA D) 28) := by show ObjAt ..; rw [← hW1]; exact HO0.out.alloc _
  have HB1 : Hid (Below w.heap.size w W1) := by show Below ..; rw [← hW1]; exact HB0.out.alloc (Nat.le_of_lt HZ0.out) _
  have HJ1 : Hid (ObjAt W1 (w.heap.size + 1) #[.slice ja l.length jc] 33) := by show ObjAt ..; rw [← hsz, ← hW1]; exact ObjAt.new _ _ _
  have HW1 := Lib.hid hW1
  have mk := make_ints l.length (by omega)
  clear hW1 HO0 HB0 hsz
  unfold desA at HNH ⊢
  refine (callsIn_wide (n := 9)).1 ?_
  refine callsIn_of_wp_marks Tryz.func13 rfl trivial ?_ rfl
  simp only [Tryz.ntmps13, List.size_toArray, List.length_cons, List.length_nil, Nat.reduceAdd, Nat.reduceSub, Array.replicate_succ, Array.replicate_zero, List.push_toArray, List.append_toArray, List.nil_append, List.cons_append]
  refine wpIn_wide.2 ?_
  go_upto_region 1 with fail
  rw [HW0.out, HW1.out]
  clear HW0 HW1 HZ0
  obtain ⟨c0, c1, c2, c3, c4, c5⟩ := desC HO1.out
  have c6 : W1.cell? ⟨w.heap.size + 1, 0, none⟩ = some (.slice ja l.length jc) := HJ1.out.cell 0
  go_wp2_with fail
  refine (HNH.out W1 HB1.out).mono ?_
  rintro e w2 ⟨hb, bv, ov, rfl, hw, h1⟩
  have HB2 := Lib.hid (ext_trans HB1.out h1)
  have HJ2 := Lib.hid (HJ1.out.keep h1)
  have HH : Hid (HallJ w2 hb ja jc l fr bv ov bl E) := ⟨hw, HIN.out.hj.keep HB2.out, HIN.out.hc.keep HB2.out⟩
  clear c0 c1 c2 c3 c4 c5 c6 h1 hw HNH HO1 HB1 HJ1
  obtain ⟨W3, hW3⟩ : ∃ W3, w2.alloc (.cells #[.pointer (some ⟨hb, 0, none⟩)] 61) = W3 := ⟨_, rfl⟩
  have HO8 : Hid (ObjAt W3 w2.heap.size #[.pointer (some ⟨hb, 0, none⟩)] 61) := by show ObjAt ..; rw [← hW3]; exact ObjAt.new _ _ _
  have H23 : Hid (Below w2.heap.size w2 W3) := by show Below ..; rw [← hW3]; exact (Below.refl _ _).alloc (Nat.le_refl _) _
  have HW3 := Lib.hid hW3
  clear hW3
  have c6 : W3.cell? ⟨w.heap.size + 1, 0, none⟩ = some (.slice ja l.length jc) := (HJ2.out.keep H23.out).cell 0
  go_upto_region 4 with fail
  rw [HW3.out]
  clear HW3
  go_upto_region 5 with fail
  obtain ⟨W4, hW4⟩ : ∃ W4, W3.alloc (.cells (rowA l.length fun _ => .int .i64 0) 3) = W4 := ⟨_, rfl⟩
  obtain ⟨W5, hW5⟩ : ∃ W5, W4.alloc (.cells #[.slice (some ⟨W3.heap.size, 0, none⟩) l.length l.length] 65) = W5 := ⟨_, rfl⟩
  have hs4 : W4.heap.size = W3.heap.size + 1 := by rw [← hW4]; simp
  have h34 : Below W3.heap.size W3 W4 := by rw [← hW4]; exact (Below.refl _ _).alloc (Nat.le_refl _) _
  have h45 : Below W4.heap.size W4 W5 := by rw [← hW5]; exact (Below.refl _ _).alloc (Nat.le_refl _) _
  have HOG : Hid (ObjAt W5 W3.heap.size (rowA l.length fun _ => .int .i64 0) 3) := by
    show ObjAt ..
    refine ObjAt.keep ?_ h45
    rw [← hW4]; exact ObjAt.new _ _ _
  have HO9 : Hid (ObjAt W5 (W3.heap.size + 1) #[.slice (some ⟨W3.heap.size, 0, none⟩) l.length l.length] 65) := by show ObjAt ..; rw [← hs4, ← hW5]; exact ObjAt.new _ _ _
  have h35 : Below W3.heap.size W3 W5 := ext_trans h34 h45
  have H25 := Lib.hid (ext_trans H23.out h35)
  have HO85 := Lib.hid (HO8.out.keep h35)
  have HG3 : Hid (w2.heap.size < W3.heap.size) := HO8.out.lt
  have HW5 : Hid ((W3.alloc (.cells (rowA l.length fun _ => .int .i64 0) 3)).alloc (.cells #[.slice (some ⟨W3.heap.size, 0, none⟩) l.length l.length] 65) = W5) := by show _ = _; rw [hW4, hW5]
  clear hW4 hW5 hs4 h34 h45 h35 HO8 H23 c6 mk
  rw [HW5.out]
  clear HW5
  have HG : Hid (w2.heap.size ≤ W3.heap.size) := Nat.le_of_lt HG3.out
  generalize W3.heap.size = g at *
  obtain ⟨oa, oc, rfl, o1, o2, o3⟩ := HH.out.hw.o
  rw [natI_len] at o1 o3 HH
  obtain ⟨o, ho⟩ : ∃ o, OrdL l bl E = o := ⟨_, rfl⟩
  rw [ho] at HORD o1 o3 HH
  have O3 : Hid (∀ k (hk : k < o.length), ∃ b off, oa = some ⟨b, off, none⟩ ∧ w2.cell? ⟨b, off + k, none⟩ = some (.int .i64 (o[k]'hk : Nat))) := fun k hk => by
    obtain ⟨b, off, e, c⟩ := o3 k hk
    refine ⟨b, off, e, c.trans ?_⟩
    show some (Value.int .i64 (gi (natI o) k)) = _
    rw [gi_natI hk]
  have HOL : Hid (o.length = l.length) := by show _ = _; rw [HORD.out.len, hl_len]
  clear o3 ho
  have c8 : W5.cell? ⟨w2.heap.size, 0, none⟩ = some (.pointer (some ⟨hb, 0, none⟩)) := HO85.out.cell 0
  have c3 := (HH.out.keep H25.out).hw.c.c3
  go_wp2_with fail
  refine (Backward_any _ _ _ W5).mono ?_
  rintro e w6 ⟨rfl, hw6⟩
  have HO6 : Hid (ObjAt w6 W5.heap.size #[.slice oa o.length oc] 65) := by show ObjAt ..; rw [hw6]; exact ObjAt.new _ _ _
  have h56 : Below W5.heap.size W5 w6 := by rw [hw6]; exact (Below.refl _ _).alloc (Nat.le_refl _) _
  have H26 := Lib.hid (ext_trans H25.out h56)
  have HOG6 := Lib.hid (HOG.out.keep h56)
  have HO96 := Lib.hid (HO9.out.keep h56)
  have HO86 := Lib.hid (HO85.out.keep h56)
  clear hw6 h56 HOG HO9 HO85 c8 c3 H25
  generalize W5.heap.size = Bs at *
  -- what the rounds see
  have HK : Hid (∀ W, FrV w6.heap.size (blkV g) w6 W → Below w2.heap.size w2 W) := fun W hf => H26.out.trans (hf.belowN HG.out H26.out.size)
  have hol : o.length ≤ 64 := by have := HOL.out; omega
  go_wp2_with fail
  refine (wpIn_wide (n := 9)).1 ?_
  generalize hA : Act.mk _ _ = A0
  refine wpIn_rangeFunc_ownH (α := Fin o.length) rfl (by omega) (gf := 85) (lb := #[.pointer (some ⟨Bs, 0, none⟩)]) (by rw [← hA]; rfl) trivial (enters_of Tryz.func85 (by kernel_rfl) rfl) (encs := fun x => #[.int .i64 (x.1 : Nat), .int .i64 (o[x.1] : Nat)]) (Kp := fun A B => FrV w6.heap.size (blkV g) A B) (S := fun xs => xs = backL o.length 0) (Sp := fun _ => True) (N := o.length) (w0 := w6)
    (fun l' J Jx W hW _ _ hY h0 => back_in (9 - 1) (by omega) l' Bs oa oc o (by omega) (fun A B => FrV w6.heap.size (blkV g) A B) (fun h1 h2 => h1.cmp h2 (Nat.le_refl _)) J Jx hY W (FrV.refl _ _ _) (fun W' hf => by
      have hf2 : FrV w6.heap.size (blkV g) w6 W' := (FrV.of_below hW).cmp hf (Nat.le_refl _)
      refine ⟨(hf2.objN HO6.out HO6.out.lt (obj_ne HO6.out HOG6.out (by decide))).cell 0, fun k hk => ?_⟩
      obtain ⟨b, off, e, c⟩ := O3.out k hk
      exact ⟨b, off, e, cell_keep (HK.out _ hf2) c⟩) h0)
    (fun h1 h2 => h1.cmp h2 (Nat.le_refl _)) ?hKb (Below.refl _ _) (fun _ => rfl)
    (fun pre W => ∃ F, ChI w6 W g l bl E fr o pre F) (fun _ _ _ => False) ?hI (fun _ _ _ _ _ hs _ _ => hs)
    ⟨fun _ => 0, HOG6.out, fun v => ⟨Int.le_refl _, by simp⟩, FrV.refl _ _ _, fun _ => ⟨fun i _ => tail_zero HIN.out.hJ.ok i, fun _ _ => rfl⟩⟩
    (fun x a' _ => a' = { tmps := (((A0.tmps.setIfInBounds 34 (.int .i64 (x.1 : Nat))).setIfInBounds 35 (.int .i64 (o[x.1] : Nat))).setIfInBounds 11 (.int .i64 (o[x.1] : Nat))), defers := [] }) (fun _ _ _ _ _ _ hs _ _ => hs) ?assign ?body ?done ?stop
  case hKb => exact fun W l' o o' h1 h2 h3 h4 => FrV.of_below (belowK_b (w := w6) (Nat.le_refl _) W l' o o' h1 h2 h3 h4)
  case hI =>
    rintro pre X Y row ⟨F, hF⟩ hg hr
    exact ⟨F, obj_own hF.ob hg (fun r e => (hr r e).2), hF.b, hF.f.grownY hg (fun r e => (hr r e).1) hF.f.size, hF.t⟩
  case assign =>
    intro l' pre x W K hi' hK
    subst hA
    gi_wp2
    exact hK _ _ (KeepsFrom.refl _ _) (FrV.refl _ _ _) hi' rfl
  case body =>
    rintro l' pre x a' W hlr hrr ⟨F, hF⟩ rfl hlt2
    subst hA
    simp only [List.setIfInBounds_toArray, List.set_cons_succ, List.set_cons_zero]
    have HF := Lib.hid hF
    obtain ⟨i, hi⟩ : ∃ i, o[x.1] = i := ⟨_, rfl⟩
    have HI := Lib.hid hi
    have hil : i < l.length := by have := HORD.out.lt _ (List.getElem_mem (h := x.2)); rw [hl_len] at this; rw [← hi]; exact this
    rw [hi]
    have HOG1 : Hid (ObjAt W g (rowA l.length fun v => .int .i64 (if v = i then F i else F v)) 3) := by
      show ObjAt ..
      rw [rowA_congr (g := fun v => .int .i64 (F v)) fun v _ => by
        by_cases e : v = i
        · subst e; rw [if_pos rfl]
        · rw [if_neg e]]
      exact hF.ob
    have HT1 : Hid ((pre ++ [x]).Nodup → Tail2 (hl l) (BefJ l bl E) fr i (F i)) := fun hn => by
      have h1 := List.nodup_append.1 hn
      have h2 : x ∉ pre := fun h => h1.2.2 x h x (by simp) rfl
      have h3 := (hF.t h1.1).2 x h2
      rw [hi] at h3
      rw [h3]; exact tail2_zero i
    have hbi := hF.b i
    clear hF hi
    have HBW := Lib.hid (HK.out W HF.out.f)
    obtain ⟨ra, rcap, e0, hr2⟩ := HH.out.hw.r
    subst e0
    obtain ⟨rb, ro, g', e1, r1, r2⟩ := hr2 i hil
    subst e1
    have R1 := Lib.hid r1; have R2 := Lib.hid r2
    clear hr2 r1 r2
    have c6 : W.cell? ⟨w.heap.size + 1, 0, none⟩ = some (.slice ja l.length jc) := (HJ2.out.keep HBW.out).cell 0
    have hg6 : g < w6.heap.size := HOG6.out.lt
    have hg1 : g + 1 ≠ g := by omega
    have hb8 : w2.heap.size ≠ g := by have := HG3.out; omega
    gi_wp2
    clear c6
    gi_loopw [38] (fun n wr => ∃ k : Nat, k ≤ l.length ∧ n = .int .i64 k ∧ Hid (FrV W.heap.size (blkV g) W wr) ∧ Hid (∃ c : Int, ObjAt wr g (rowA l.length fun v => .int .i64 (if v = i then c else F v)) 3 ∧ 0 ≤ c ∧ c ≤ 10000 * pre.length ∧ ((pre ++ [x]).Nodup → Tail2 (hl l) (BefJ l bl E) fr i c))) (fun n _ => l.length - (intOf n).toNat)
    case atStart => exact ⟨0, Nat.zero_le _, rfl, FrV.refl _ _ _, ⟨F i, HOG1.out, hbi.1, hbi.2, HT1.out⟩⟩
    case round =>
      obtain ⟨k, hk, rfl, hf, hcc⟩ := hrel
      obtain ⟨c, ho, hc0, hc1, ht⟩ := hcc.out
      have HO := Lib.hid ho; have HTT := Lib.hid ht
      clear ho ht hcc
      have HFW : Hid (FrV w6.heap.size (blkV g) w6 wr) := HF.out.f.cmp hf.out HF.out.f.size
      have HBR := Lib.hid (HK.out wr HFW.out)
      have c9 : wr.cell? ⟨g + 1, 0, none⟩ = some (.slice (some ⟨g, 0, none⟩) l.length l.length) := (HFW.out.objN HO96.out HO96.out.lt (by omega)).cell 0
      by_cases hlt : k < l.length
      · have c8 : wr.cell? ⟨w2.heap.size, 0, none⟩ = some (.pointer (some ⟨hb, 0, none⟩)) := (HFW.out.objN HO86.out HO86.out.lt hb8).cell 0
        have d2 := (HH.out.keep HBR.out).hw.c.c2
        have r1 := cell_keep HBR.out R1.out
        have r2 := cell_keep HBR.out (R2.out k hlt)
        have i1 : (i : Int) < l.length := by omega
        have i2 : (k : Int) < l.length := by omega
        obtain ⟨z, hz⟩ : ∃ z, BefJ l bl E i k = z := ⟨_, rfl⟩
        have HZ := Lib.hid hz
        rw [hz] at r2
        clear hz
        cases z
        · have HX : Hid (∃ c : Int, ObjAt wr g (rowA l.length fun v => .int .i64 (if v = i then c else F v)) 3 ∧ 0 ≤ c ∧ c ≤ 10000 * pre.length ∧ ((pre ++ [x]).Nodup → Tail2 (hl l) (BefJ l bl E) fr i c)) := ⟨c, HO.out, hc0, hc1, HTT.out⟩
          gi_wp2
          go_roundw
          case rel => exact ⟨k + 1, by omega, by go_num, hf, HX⟩
          case measure => simp [intOf]; omega
        · have HKI : Hid (k ≠ i) := fun e => by subst e; have := HZ.out; rw [show BefJ l bl E k k = false from befB_irr _ _ _ _] at this; cases this
          have HO9 := Lib.hid (HFW.out.objN HO96.out HO96.out.lt (by omega))
          gi_wp2_with fail
          clear c8 d2 r1 r2 c9
          refine RegI.wpIn (reg_st2 sqT sqT_ok [⟨g + 1, 0, [.slice (some ⟨g, 0, none⟩) l.length l.length]⟩, ⟨g, i, [.int .i64 c]⟩, ⟨g, k, [.int .i64 (F k)]⟩] (FrV wr.heap.size (blkV g) wr) (fun u u' => Below u.heap.size u u') [(9, 0)] [(55, .ix i 1), (59, .ix k 2), (62, .ix i 1)] [] 12 62 61 3 (.pointer (some ⟨g, i, none⟩)) (.int .i64 (max c (F k)))
            (fun u => ObjAt u g (rowA l.length fun v => .int .i64 (if v = i then c else F v)) 3) (fun u => ObjAt u g (rowA l.length fun v => .int .i64 (if v = i then max c (F k) else F v)) 3)
            (by kernel_rfl) (by kernel_rfl) (by kernel_rfl) (by kernel_rfl) ⟨_, rfl, rfl, rfl⟩ ⟨rfl, rfl, rfl, Nat.le_refl _, fun _ _ _ => rfl⟩ HO.out (fun u u' h1 h2 => h1.thenB h2 h1.size) (fun u _ => Below.refl _ _) (fun u u' _ h h2 => h.keep h2) (fun u u' _ h h2 => h.keep h2)
            (fun u h1 h2 => ⟨_, run_storeAt_one (by rw [h2.cell]; exact rowA_get hil) (h2.frozen i) (by kernel_rfl) rfl rfl, h1.cmp (setCell_frv (n := wr.heap.size)) (Nat.le_refl _), row_set1 h2⟩)
            (obsC (fun u hu => range_new (hu.1.objN HO9.out HO9.out.lt hg1)) (obsC (fun u hu => intR (by rw [hu.2.cell, rowA_get hil, if_pos rfl])) (obsC (fun u hu => intR (by rw [hu.2.cell, rowA_get hlt, if_neg HKI.out])) obsN))) ⟨rfl, trivial⟩ ?_) mixed (by kernel_rfl) (by kernel_rfl)
          conv => whnf
          refine And.intro (under_of ⟨rfl, hil, rfl, by show i = 0 + i * 1; omega⟩) ?_
          conv => whnf
          refine And.intro (under_of ⟨rfl, hlt, rfl, by show k = 0 + k * 1; omega⟩) ?_
          conv => whnf
          refine And.intro (under_of ⟨rfl, hil, rfl, by show i = 0 + i * 1; omega⟩) ?_
          conv => whnf
          refine And.intro ⟨rfl, rfl⟩ ?_
          intro f1
          conv => whnf
          intro w7 h7 ho7
          have hbk := HF.out.b k
          have HX : Hid (∃ c : Int, ObjAt w7 g (rowA l.length fun v => .int .i64 (if v = i then c else F v)) 3 ∧ 0 ≤ c ∧ c ≤ 10000 * pre.length ∧ ((pre ++ [x]).Nodup → Tail2 (hl l) (BefJ l bl E) fr i c)) := ⟨max c (F k), ho7, by omega, by omega, fun hn => tail2_next HIN.out.hJ.ok (by rw [hl_len]; exact hil) (by rw [hl_len]; exact hlt) (befB_irr _ _ _) (HTT.out hn) ((HF.out.t (List.nodup_append.1 hn).1).1 k hlt) HZ.out⟩
          have hf7 : FrV W.heap.size (blkV g) W w7 := hf.out.cmp h7 hf.out.size
          have HF7 := Lib.hid hf7
          clear h7 ho7 hf7 hbk HO HO9
          gi_wp2
          go_roundw
          case rel => exact ⟨k + 1, by omega, by go_num, HF7, HX⟩
          case measure => simp [intOf]; omega
      · obtain rfl : k = l.length := by omega
        have HO9 := Lib.hid (HFW.out.objN HO96.out HO96.out.lt (by omega))
        obtain ⟨ja', jc', e, _, _, j3⟩ := HH.out.j
        cases e
        obtain ⟨jb, jo, rfl, hcj⟩ := j3 i hil
        have HCJ := Lib.hid hcj
        have HHR : Hid (1 ≤ (mhi l i).h.hours ∧ (mhi l i).h.hours ≤ 10000) := HIN.out.hJ.hr _ (by unfold hl; exact List.mem_map_of_mem (mhi_mem hil))
        have hh1 := HHR.out.1
        have hh2 := HHR.out.2
        have hpl : (pre.length : Int) ≤ 64 := by omega
        clear j3 hcj c9
        gi_wp2_with fail
        refine RegI.wpIn (reg_st2 sqT sqT_ok [⟨g + 1, 0, [.slice (some ⟨g, 0, none⟩) l.length l.length]⟩, ⟨g, i, [.int .i64 c]⟩, ⟨w.heap.size + 1, 0, [.slice (some ⟨jb, jo, none⟩) l.length jc]⟩, ⟨jb, jo + i * 3, hsCells (mhi l i)⟩] (FrV wr.heap.size (blkV g) wr) (fun u u' => Below u.heap.size u u') [(9, 0), (4, 2)] [(66, .ix i 1), (70, .ix i 3), (74, .ix i 1)] [] 11 74 73 3 (.pointer (some ⟨g, i, none⟩)) (.int .i64 (c + (mhi l i).h.hours))
          (fun u => ObjAt u g (rowA l.length fun v => .int .i64 (if v = i then c else F v)) 3) (fun u => ObjAt u g (rowA l.length fun v => .int .i64 (if v = i then c + (mhi l i).h.hours else F v)) 3)
          (by kernel_rfl) (by kernel_rfl) (by kernel_rfl) (by kernel_rfl) ⟨_, rfl, rfl, rfl⟩ ⟨rfl, rfl, rfl, Nat.le_refl _, fun _ _ _ => rfl⟩ HO.out (fun u u' h1 h2 => h1.thenB h2 h1.size) (fun u _ => Below.refl _ _) (fun u u' _ h h2 => h.keep h2) (fun u u' _ h h2 => h.keep h2)
          (fun u h1 h2 => ⟨_, run_storeAt_one (by rw [h2.cell]; exact rowA_get hil) (h2.frozen i) (by kernel_rfl) rfl rfl, h1.cmp (setCell_frv (n := wr.heap.size)) (Nat.le_refl _), row_set1 h2⟩)
          (obsC (fun u hu => range_new (hu.1.objN HO9.out HO9.out.lt hg1)) (obsC (fun u hu => intR (by rw [hu.2.cell, rowA_get hil, if_pos rfl])) (obsC (fun u hu => range_new (HJ2.out.keep (HK.out u (HFW.out.cmp hu.1 HFW.out.size)))) (obsC (fun u hu => rangeKeep (hs_range HCJ.out) (HK.out u (HFW.out.cmp hu.1 HFW.out.size))) obsN)))) ⟨rfl, rfl, trivial⟩ ?_) mixed (by kernel_rfl) (by kernel_rfl)
        conv => whnf
        refine And.intro (under_of ⟨rfl, hil, rfl, by show i = 0 + i * 1; omega⟩) ?_
        conv => whnf
        refine And.intro (under_of ⟨rfl, hil, rfl, rfl⟩) ?_
        conv => whnf
        refine And.intro (under_of (by omega)) ?_
        conv => whnf
        refine And.intro (under_of ⟨rfl, hil, rfl, by show i = 0 + i * 1; omega⟩) ?_
        conv => whnf
        refine And.intro ⟨rfl, rfl⟩ ?_
        intro f1
        conv => whnf
        intro w7 h7 ho7
        have hf7 : FrV W.heap.size (blkV g) W w7 := hf.out.cmp h7 hf.out.size
        have hs6 : w6.heap.size ≤ W.heap.size := HF.out.f.size
        refine ⟨keeps_frv hf7 hg6, hf7.low hs6, fun v => if v = i then c + (mhi l i).h.hours else F v, ho7, fun v => ?_, HFW.out.cmp h7 HFW.out.size, fun hn => ⟨fun v hv => ?_, fun y hy => ?_⟩⟩
        · have hbv := HF.out.b v
          rw [List.length_append]
          simp only [List.length_cons, List.length_nil]
          split <;> omega
        · have h1 := List.nodup_append.1 hn
          split
          · rename_i e
            subst e
            have := tail_of HIN.out.hJ.ok (by rw [hl_len]; exact hil) (HTT.out hn)
            rw [hsi_ml hil] at this
            exact this
          · exact (HF.out.t h1.1).1 v hv
        · have h1 := List.nodup_append.1 hn
          have hyx : y ≠ x := fun e => hy (by rw [e]; simp)
          have hyp : y ∉ pre := fun h => hy (List.mem_append_left _ h)
          have hne : o[y.1] ≠ i := fun e => by
            rw [← HI.out] at e
            have hnd := HORD.out.nd
            rw [List.nodup_iff_pairwise_ne, List.pairwise_iff_getElem] at hnd
            have hxy : y.1 ≠ x.1 := fun e => hyx (Fin.ext e)
            rcases Nat.lt_or_gt_of_ne hxy with h | h
            · exact hnd y.1 x.1 y.2 x.2 h e
            · exact hnd x.1 y.1 x.2 y.2 h e.symm
          rw [if_neg hne]
          exact (HF.out.t h1.1).2 y hyp
  case done =>
    rintro D' ys W hD rfl ⟨F, hF⟩ hK'
    subst hA
    have HDF := Lib.hid hK'
    have HWD : Hid (w.heap.size ≤ D') := by show _ ≤ _; have := HB2.out.size; have := H26.out.size; omega
    have HTL := Lib.hid (hF.t (backL_nd _)).1
    have HFB : Hid (∀ v, 0 ≤ F v ∧ F v ≤ 640000) := fun v => by have := hF.b v; rw [backL_len] at this; omega
    have HBW := Lib.hid (HK.out W hF.f)
    have HOC := Lib.hid hF.ob
    have HO9 := Lib.hid (hF.f.objN HO96.out HO96.out.lt (by omega))
    have HJW := Lib.hid (HJ2.out.keep HBW.out)
    have HB0W : Hid (Below w.heap.size w W) := HB2.out.trans (HBW.out.mono HB2.out.size)
    have hmm := @run_makeMap Tryz.prog
    have HCS := Lib.hid hcs
    have c6 : W.cell? ⟨w.heap.size + 1, 0, none⟩ = some (.slice ja l.length jc) := HJW.out.cell 0
    have HA0 : Hid (AM (W.alloc (.map #[] 0)) W.heap.size 0 (aloneF (hl l) 0)) := by
      have e : aloneF (hl l) 0 = fun _ => 0 := by funext c; unfold aloneF; simp
      show AM ..
      rw [e]; exact AM.made W
    obtain ⟨W7, hW7⟩ : ∃ W7, W.alloc (.map #[] 0) = W7 := ⟨_, rfl⟩
    have HB7 : Hid (Below W.heap.size W W7) := by show Below ..; rw [← hW7]; exact (Below.refl _ _).alloc (Nat.le_refl _) _
    rw [hW7] at HA0
    have HBM : Hid (W.heap.size < W7.heap.size) := by show _ < _; rw [← hW7]; simp
    have HW7 := Lib.hid hW7
    have HP0 : Hid (∀ q, Reach (hl l) (BefJ l bl E) fr q → q.length = l.length → q ≠ [] → fr ≤ endF q) := fun q h1 h2 h3 => by
      have := alone_le HIN.out.hJ.ok h1 (by rw [hl_len]; exact h2) h3 0 []
      unfold aloneF at this
      simpa using this
    have f0 := HIN.out.f0
    have f1 := HIN.out.f1
    clear hF hK' hW7 HK HO6 HO86 HO96 HOG6 H26
    go_upto_region 16 with fail
    rw [HW7.out]
    clear HW7 c6
    have c6 : W7.cell? ⟨w.heap.size + 1, 0, none⟩ = some (.slice ja l.length jc) := (HJW.out.keep HB7.out).cell 0
    go_wp2_with fail
    clear c6
    go_loopw [6, 79] (fun z n wr => ∃ (k : Nat) (y : Int), k ≤ l.length ∧ n = .int .i64 k ∧ z = .int .i64 y ∧ 0 ≤ y ∧ y ≤ 4000000 ∧ Hid (Below W.heap.size W wr) ∧ Hid (∃ N, N ≤ k ∧ AM wr W.heap.size N (aloneF (hl l) k)) ∧ Hid (∀ q, Reach (hl l) (BefJ l bl E) fr q → q.length = l.length → q ≠ [] → y ≤ endF q)) (fun _ n _ => l.length - (intOf n).toNat)
    case atStart => exact ⟨0, fr, Nat.zero_le _, rfl, rfl, f0, by omega, HB7, ⟨0, Nat.le_refl _, HA0.out⟩, HP0⟩
    case round =>
      obtain ⟨k, y, hk, rfl, rfl, y0, y1, hb7, ham, hpy⟩ := hrel
      have HBMW : Hid (W.heap.size < wr.heap.size) := by obtain ⟨_, _, _, h1, _⟩ := ham.out; exact h1.lt
      have HBR : Hid (Below w2.heap.size w2 wr) := HBW.out.trans (hb7.out.mono HBW.out.size)
      by_cases hlt : k < l.length
      · obtain ⟨ja', jc', e, _, _, j3⟩ := HH.out.j
        cases e
        obtain ⟨jb, jo, rfl, hcj⟩ := j3 k hlt
        obtain ⟨c0, c1, c2⟩ := hcj.keep HBR.out
        obtain ⟨va, vc, hav, hsz⟩ := HH.out.c.form hlt
        have HAV := Lib.hid hav
        rw [hav] at c2
        obtain ⟨W8, HO8', HC8, HW8, _⟩ := copyH wr (mhi l k) hav
        have HSZ := Lib.hid hsz
        have HB28 : Hid (Below w2.heap.size w2 W8) := HBR.out.trans (HC8.out.mono HBR.out.size)
        have i2 : (k : Int) < l.length := by omega
        clear hcj hav hsz j3
        go_upto_region 19 with fail
        rw [HW8.out]
        clear HW8 c0 c1 c2
        have HB8 := Lib.hid (ext_trans hb7.out HC8.out)
        have c9 : W8.cell? ⟨g + 1, 0, none⟩ = some (.slice (some ⟨g, 0, none⟩) l.length l.length) := (HO9.out.keep HB8.out).cell 0
        have cg : W8.cell? ⟨g, k, none⟩ = some (.int .i64 (F k)) := by rw [(HOC.out.keep HB8.out).cell]; exact rowA_get hlt
        have e2 : W8.cell? ⟨wr.heap.size, 2, none⟩ = some (.slice va (mhi l k).h.cranes.length vc) := by rw [HO8'.out.cell, ← HAV.out]; rfl
        have hfb := HFB.out k
        have w4 : IntKind.i64.wrap (fr + F k) = fr + F k := IntWalk.i64_in _ (by omega)
        have HPY : Hid (∀ q, Reach (hl l) (BefJ l bl E) fr q → q.length = l.length → q ≠ [] → max y (fr + F k) ≤ endF q) := fun q h1 h2 h3 => by
          have a1 := hpy.out q h1 h2 h3
          have a2 := tail_le HIN.out.hJ.ok (by rw [hl_len]; exact hlt) (HTL.out k hlt) h1 (by rw [hl_len]; exact h2)
          omega
        obtain ⟨N, hN, hAM⟩ := ham.out
        have HAM := Lib.hid (hAM.keep HC8.out)
        have HAT := Lib.hid (fun c => alone_take (J := hl l) (k := k) (by rw [hl_len]; exact hlt) c)
        clear hAM ham
        by_cases h1 : (mhi l k).h.cranes.length = 1
        · have i3 : (((mhi l k).h.cranes.length : Int) == 1) = true := by rw [beq_iff_eq]; omega
          obtain ⟨c, hc1⟩ : ∃ c, (mhi l k).h.cranes = [c] := List.length_eq_one_iff.1 h1
          have HC1 := Lib.hid hc1
          have hm1 : max y (fr + F k) ≤ 4000000 := by omega
          have hm0 : 0 ≤ max y (fr + F k) := by omega
          obtain ⟨m, hm⟩ : ∃ m, max y (fr + F k) = m := ⟨_, rfl⟩
          rw [hm] at HPY hm1 hm0
          have HM := Lib.hid hm
          clear h1 hc1 hm
          obtain ⟨va', vc', e, s1, s2, s3⟩ := HSZ.out
          rw [List.length_map] at e s3
          cases e
          obtain ⟨cb, co, rfl, hcc⟩ := s3 0 (by rw [HC1.out]; simp)
          have HCC : Hid (w2.cell? ⟨cb, co, none⟩ = some (.string (bs c))) := by
            show _ = _
            rw [← Nat.add_zero co, hcc]
            refine congrArg some (congrArg Value.string ?_)
            rw [HC1.out]; rfl
          have hl1 : (mhi l k).h.cranes.length = 1 := by rw [HC1.out]; rfl
          have hcl : c.length ≤ maxLen := HCS.out _ (mhi_mem hlt) c (by rw [HC1.out]; simp)
          have hne : wr.heap.size ≠ W.heap.size := by have := HBMW.out; omega
          have hw2 : w2.heap.size ≤ W.heap.size := HBW.out.size
          obtain ⟨a1, a2⟩ := alone_rng HIN.out.hJ.ok (k := k) (by rw [hl_len]; omega) c
          have hhr : 1 ≤ (mhi l k).h.hours ∧ (mhi l k).h.hours ≤ 10000 := HIN.out.hJ.hr _ (by unfold hl; exact List.mem_map_of_mem (mhi_mem hlt))
          have hNm : N < maxLen := by unfold maxLen; omega
          have HR15 : Hid (W8.rangeAt wr.heap.size 0 [.string (bs (mhi l k).h.block), .int .i64 (mhi l k).h.hours, .slice (some ⟨cb, co, none⟩) (mhi l k).h.cranes.length vc]) := by
            have := range_new HO8'.out
            unfold hsA at this
            rw [HAV.out] at this
            exact this
          clear s1 s2 s3 hcc
          go_upto_region 21 with fail
          rw [HM.out]
          clear c9 cg e2
          refine wp_region_mu sqT sqT_ok [⟨wr.heap.size, 0, [.string (bs (mhi l k).h.block), .int .i64 (mhi l k).h.hours, .slice (some ⟨cb, co, none⟩) (mhi l k).h.cranes.length vc]⟩, ⟨cb, co, [.string (bs c)]⟩] (FrV W8.heap.size (blkV W.heap.size) W8) (fun u u' => Below u.heap.size u u') [(15, 0)] [(99, .ix 0 1), (101, .ret (.int .i64 (aloneF (hl l) k c)))] [] 9 96 100 104 93 (.map (some W.heap.size)) (.string (bs c)) (.int .i64 (aloneF (hl l) k c + (mhi l k).h.hours))
            (fun u => AM u W.heap.size N (aloneF (hl l) k)) (fun u => AM u W.heap.size (N + 1) fun t => if t = c then aloneF (hl l) k c + (mhi l k).h.hours else aloneF (hl l) k t)
            (by kernel_rfl) mixed (by kernel_rfl) (by kernel_rfl) (by kernel_rfl) ⟨_, rfl, rfl, rfl⟩ ⟨rfl, rfl, rfl, Nat.le_refl _, fun _ _ _ => rfl⟩ (HAM.out.keep (Below.refl _ _).drew) (fun u u' h1 h2 => h1.thenB h2 h1.size) (fun u _ => Below.refl _ _) (fun u u' _ h h2 => h.keep h2) (fun u u' _ h h2 => h.keep h2)
            (fun u h1 h2 => by
              obtain ⟨u', r, a, t⟩ := h2.store hNm hcl (aloneF (hl l) k c + (mhi l k).h.hours)
              exact ⟨u', r, h1.grownB t.grown h1.size, a⟩)
            (obsC (fun u hu j v hv => frv_at hu.1 (HR15.out j v hv) (Nat.le_refl _) hne) (obsC (fun u hu => intR (cell_keep (HB28.out.trans (hu.1.belowN hw2 HB28.out.size)) HCC.out)) obsN)) ⟨rfl, trivial⟩ ?_
          conv => whnf
          refine And.intro (under_of ⟨rfl, by rw [hl1]; exact Nat.one_pos, rfl, rfl⟩) ?_
          conv => whnf
          refine And.intro (under_of fun u hu => hu.2.look hcl) ?_
          conv => whnf
          refine And.intro (under_of (by omega)) ?_
          conv => whnf
          refine And.intro ⟨rfl, rfl, rfl⟩ ?_
          intro f2
          conv => whnf
          intro w9 h9 ham9
          have HB9 : Hid (Below W.heap.size W w9) := HB8.out.trans (h9.belowN (Nat.le_refl _) HB8.out.size)
          have e2 : w9.cell? ⟨wr.heap.size, 2, none⟩ = some (.slice (some ⟨cb, co, none⟩) (mhi l k).h.cranes.length vc) := frv_at h9 (by have := HR15.out 2 _ rfl; rw [Nat.zero_add] at this; exact this) (Nat.le_refl _) hne
          have e3 : w9.cell? ⟨cb, co, none⟩ = some (.string (bs c)) := cell_keep (HB28.out.trans (h9.belowN hw2 HB28.out.size)) HCC.out
          have hlk := ham9.look hcl
          rw [if_pos rfl] at hlk
          have i4 : (0 : Int) < (mhi l k).h.cranes.length := by omega
          have w5 : IntKind.i64.wrap (fr + (aloneF (hl l) k c + (mhi l k).h.hours)) = fr + (aloneF (hl l) k c + (mhi l k).h.hours) := IntWalk.i64_in _ (by omega)
          have e : aloneF (hl l) (k + 1) = fun t => if t = c then aloneF (hl l) k c + (mhi l k).h.hours else aloneF (hl l) k t := by
            funext t
            rw [HAT.out t, hsi_ml hlt, HC1.out]
            by_cases et : t = c
            · subst et; rw [if_pos rfl, if_pos rfl]
            · rw [if_neg et, if_neg (fun h => et (by simpa using h.symm))]; omega
          have HAN : Hid (∃ N, N ≤ k + 1 ∧ AM w9 W.heap.size N (aloneF (hl l) (k + 1))) := ⟨N + 1, by omega, by rw [e]; exact ham9⟩
          have HPZ : Hid (∀ q, Reach (hl l) (BefJ l bl E) fr q → q.length = l.length → q ≠ [] → max m (fr + (aloneF (hl l) k c + (mhi l k).h.hours)) ≤ endF q) := fun q h1 h2 h3 => by
            have a1 := HPY.out q h1 h2 h3
            have a2 := alone_le HIN.out.hJ.ok h1 (by rw [hl_len]; exact h2) h3 (k + 1) c
            rw [e] at a2
            dsimp only at a2
            rw [if_pos rfl] at a2
            omega
          have hz1 : max m (fr + (aloneF (hl l) k c + (mhi l k).h.hours)) ≤ 4000000 := by omega
          have hz0 : 0 ≤ max m (fr + (aloneF (hl l) k c + (mhi l k).h.hours)) := by omega
          clear e h9 ham9
          go_wp2_with fail
          go_roundw
          case rel => exact ⟨k + 1, _, by omega, by go_num, rfl, hz0, hz1, HB9, HAN, HPZ⟩
          case measure => simp [intOf]; omega
        · have i3 : (((mhi l k).h.cranes.length : Int) == 1) = false := by rw [beq_eq_false_iff_ne]; omega
          have HAN : Hid (∃ N, N ≤ k + 1 ∧ AM W8 W.heap.size N (aloneF (hl l) (k + 1))) := by
            have e : aloneF (hl l) (k + 1) = aloneF (hl l) k := by
              funext c
              rw [HAT.out c, hsi_ml hlt, if_neg (fun e => h1 (by rw [e]; rfl))]
              omega
            exact ⟨N, by omega, by rw [e]; exact HAM.out⟩
          have hm1 : max y (fr + F k) ≤ 4000000 := by omega
          have hm0 : 0 ≤ max y (fr + F k) := by omega
          clear h1
          go_wp2_with fail
          go_roundw
          case rel => exact ⟨k + 1, max y (fr + F k), by omega, by go_num, rfl, hm0, hm1, HB8, HAN, HPY⟩
          case measure => simp [intOf]; omega
      · obtain rfl : k = l.length := by omega
        have hd : wr.heap[D']? = some (.deferred (some [])) := (hb7.out.block D' (Array.getElem?_eq_some_iff.1 HDF.out).1).trans HDF.out
        have HBE : Hid (Below w.heap.size w wr) := HB0W.out.trans (hb7.out.mono HB0W.out.size)
        go_wp2_with fail
        refine ⟨by simp, .inl ⟨_, _, rfl, run_takeDeferred hd, ?_⟩⟩
        exact ⟨_, results_tmp2 rfl _ _ _, y, rfl, hpy.out, HBE.out.trans (belowK_b (w := w) (Nat.le_refl _) wr D' _ _ HWD.out hd rfl rfl)⟩
  case stop =>
    rintro D' c pre W _ _ h _
    exact h.elim
end Go.Proofs.YtfpnjbomlmhlpaaGreat
