/- Contract: Greedy of the reference. -/
import Derived.Test.YtlgepggmgfnneaaBarM
import Derived.Test.YtlgepggmgfnneaaBarW
import Derived.Test.YtlgepggmgfnneaaBarX
namespace Go.Proofs.Ytlgepggmgfnneaa
open Go.RowKit

theorem selB_take {bef : Int → Int → Bool} {m : Nat} : ∀ {n k : Nat}, k ≤ n → (selB bef m n).take k = selB bef m k := by
  intro n
  induction n with
  | zero => intro k hk; obtain rfl : k = 0 := by omega
            rfl
  | succ n ih =>
    intro k hk
    by_cases e : k = n + 1
    · subst e; rw [List.take_of_length_le (by rw [selB_length]; exact Nat.le_refl _)]
    · rw [selB, List.take_append_of_le_length (by rw [selB_length]; omega)]
      exact ih (by omega)
theorem ordG_next {l : List Int} {n : Nat} (h : n < l.length) : nextB (befG l) ((ordG l).take n) l.length = gi (ordG l) n := by
  unfold ordG
  rw [selB_take (by omega)]
  have e : selB (befG l) l.length (n + 1) = (selB (befG l) l.length l.length).take (n + 1) := (selB_take (by omega)).symm
  have e2 : selB (befG l) l.length (n + 1) = selB (befG l) l.length n ++ [nextB (befG l) (selB (befG l) l.length n) l.length] := rfl
  have h3 : gi (selB (befG l) l.length (n + 1)) n = nextB (befG l) (selB (befG l) l.length n) l.length := by
    rw [e2]
    have := gi_append_one (xs := selB (befG l) l.length n) (y := nextB (befG l) (selB (befG l) l.length n) l.length)
    rwa [selB_length] at this
  rw [← h3, e, gi_take (by omega)]
theorem ordG_take_succ {l : List Int} {n : Nat} (h : n < l.length) : (ordG l).take (n + 1) = (ordG l).take n ++ [gi (ordG l) n] := take_succ_gi (by rw [ordG_length]; exact h)
/-- one step of the scan -/
theorem nextB_taken {l T : List Int} {i : Nat} (h : seenF T i = true) : nextB (befG l) T (i + 1) = nextB (befG l) T i := by
  rw [nextB_succ, if_neg]
  have : (T.any fun y => (i : Int) == y) = true := h
  rw [this]; simp
theorem nextB_first {l T : List Int} {i : Nat} (h : seenF T i = false) (hn : nextB (befG l) T i < 0) : nextB (befG l) T (i + 1) = i := by
  rw [nextB_succ, if_pos]
  have : (T.any fun y => (i : Int) == y) = false := h
  rw [this]; simp [hn]
theorem nextB_range (l T : List Int) (i : Nat) : -1 ≤ nextB (befG l) T i ∧ nextB (befG l) T i < i := by
  rcases nextB_spec (bef_G l) T i with ⟨h, _⟩ | ⟨h1, h2, _⟩
  · rw [h]; omega
  · omega
theorem nextB_more {l T : List Int} {i : Nat} (h : seenF T i = false) (hn : ¬ nextB (befG l) T i < 0) (hb : glI l (nextB (befG l) T i) < glI l i) : nextB (befG l) T (i + 1) = i := by
  rw [nextB_succ, if_pos]
  have : (T.any fun y => (i : Int) == y) = false := h
  rw [this, befG_iff.2 (.inl hb)]; simp
theorem nextB_less {l T : List Int} {i : Nat} (h : seenF T i = false) (hn : ¬ nextB (befG l) T i < 0) (hb : ¬ glI l (nextB (befG l) T i) < glI l i) : nextB (befG l) T (i + 1) = nextB (befG l) T i := by
  rw [nextB_succ, if_neg]
  have h1 : (T.any fun y => (i : Int) == y) = false := h
  have h2 : befG l i (nextB (befG l) T i) = false := by
    rw [Bool.eq_false_iff]; intro h3
    rw [befG_iff] at h3
    have := nextB_range l T i
    omega
  rw [h1, h2]; simp [hn]

/-- what stands in memory -/
structure RGr (w : World) (B : Nat) (t uv : Value) (n0 : Nat) (T : List Int) (rs : List (List Int)) (vs : List Value) (us : List Int) : Prop where
  two : Two w B t rs vs uv us
  tk : w.ownsRow B 4 1 (.slice (some ⟨B, 0, none⟩) n0 n0) n0 (seenM T n0)
  le : B ≤ w.heap.size
section
variable {w w' : World} {B : Nat} {t uv : Value} {n0 : Nat} {T us : List Int} {rs : List (List Int)} {vs : List Value}
theorem RGr.below (h : RGr w B t uv n0 T rs vs us) (hb : Below w.heap.size w w') : RGr w' B t uv n0 T rs vs us := ⟨h.two.below hb, owns_below h.tk hb, Nat.le_trans h.le hb.size⟩
theorem RGr.dn (h : RGr w B t uv n0 T rs vs us) (m : Nat) : RGr (w.drewN m) B t uv n0 T rs vs us := h.below (below_drewN' (Below.refl _ _) m)
theorem RGr.take (h : RGr w B t uv n0 T rs vs us) (x : Nat) : RGr (w.setCell ⟨B, x, none⟩ (.bool true)) B t uv n0 (T ++ [(x : Int)]) rs vs us := by
  have hst := World.ownsRow.stored h.tk x (.bool true)
  rw [seenM_set] at hst
  have st : Sep t (.slice (some ⟨B, 0, none⟩) n0 n0) := sep_of_types h.two.tab.own h.tk (by decide)
  have su : Sep uv (.slice (some ⟨B, 0, none⟩) n0 n0) := sep_of_types h.two.own h.tk (by decide)
  have sr : ∀ i, i < rs.length → Sep (vs.getD i undef) (.slice (some ⟨B, 0, none⟩) n0 n0) := fun i hi => sep_of_types (h.two.tab.row i hi) h.tk (by decide)
  exact ⟨⟨h.two.tab.kept hst.2 st.row (fun i hi => (sr i hi).row), World.ownsRow.kept h.two.own hst.2 su.row, h.two.sep⟩, hst.1, by have := h.le; simp [World.setCell]; omega⟩
theorem RGr.grown (h : RGr w B t uv n0 T rs vs us) {t' uv' : Value} {rs' : List (List Int)} {vs' : List Value} {us' : List Int} {row : Option Nat} (hg : w.grownBy w' row) (hr : row ≠ some B) (h2 : Two w' B t' rs' vs' uv' us') : RGr w' B t' uv' n0 T rs' vs' us' :=
  ⟨h2, World.ownsRow.kept h.tk hg (.inr (by simp [Value.ownBlock]; exact fun e => hr e.symm)), Nat.le_trans h.le hg.size⟩
theorem ne_tk {v : Value} {e : TypeId} {s m : Nat} {xs : List Value} (h : RGr w B t uv n0 T rs vs us) (hv : w.ownsRow B e s v m xs) (he : e ≠ 4) : v.ownBlock ≠ some B := by
  have := sep_of_types hv h.tk he
  exact fun h2 => this B h2 rfl
end

theorem wpList_two_tab {w : World} {B : Nat} {t fv : Value} {rs : List (List Int)} {vs : List Value} {fr : List Int} {ops : Array Oper} {rest : List Oper} {o : Oper} {a : Act} {Q : Exit → Act → World → Prop} (hgd : o.guard = none) (s x : Operand)
    (ho : o.op = .call { callee := .builtin .append, args := #[s, x], argTypes := #[40, 40] }) (n : Nat) (v : Value) (r : List Int) (hs : a.eval s = t) (hx : a.eval x = .slice (some ⟨n, 0, none⟩) 1 1)
    (h2 : Two w B t rs vs fv fr) (hsrc : Lit1 w n v) (h1c : v.oneCell' = true) (hr : OwnI w B v r) (hsf : Sep v fv) (hsr : ∀ i, i < rs.length → Sep (vs.getD i undef) v) (hlen : rs.length ≤ 1000000) (hb : B ≤ w.heap.size)
    (h : ∀ t' w', Two w' B t' (rs ++ [r]) (vs ++ [v]) fv fr → w.grownBy w' t.ownBlock → wpList Try.prog ops Q rest (a.put o.dst t') w') : wpList Try.prog ops Q (o :: rest) a w :=
  wpList_step fun K hK => step_two_tab hgd s x ho n v r hs hx h2 hsrc h1c hr hsf hsr hlen hb fun t' w' a1 a2 => hK _ _ (h t' w' a1 a2)
theorem wpList_row_lit {w : World} {B : Nat} {ops : Array Oper} {rest : List Oper} {o : Oper} {a : Act} {Q : Exit → Act → World → Prop} (hw : Region.wanted o (yielded ops a.tmps) = true) (s x : Operand)
    (ho : o.op = .call { callee := .builtin .append, args := #[s, x], argTypes := #[36, 36] }) (n : Nat) (y : Int) (v : Value) (r : List Int) (hs : a.eval s = v) (hx : a.eval x = .slice (some ⟨n, 0, none⟩) 1 1)
    (h2 : OwnI w B v r) (hsrc : SI w (.slice (some ⟨n, 0, none⟩) 1 1) [y]) (hlen : r.length ≤ 1000000) (hb : B ≤ w.heap.size)
    (h : ∀ g cap w', OwnI w' B (.slice (some ⟨g, 0, none⟩) (r.length + 1) cap) (r ++ [y]) → w.grownBy w' v.ownBlock → (some g = v.ownBlock ∨ g = w.heap.size) → wpList Try.prog ops Q rest (a.put o.dst (.slice (some ⟨g, 0, none⟩) (r.length + 1) cap)) w') : wpList Try.prog ops Q (o :: rest) a w :=
  wpList_step fun K hK => step_row_lit hw s x ho n y v r hs hx h2 hsrc hlen hb fun g cap w' a1 a2 a3 => hK _ _ (h g cap w' a1 a2 a3)

theorem wp_dn {P : Program} {c : Code} {Q : Exit → Act → World → Prop} {a : Act} {w ws : World} (hq : ∃ q, w = ws.drewN q) (h : ∀ q, Code.wp P c Q a (ws.drewN q)) : Code.wp P c Q a w := by
  obtain ⟨q, rfl⟩ := hq; exact h q
theorem sep_new {v : Value} {w : World} {B n : Nat} {r : List Int} (h : OwnI w B v r) (hn : w.heap.size ≤ n) (m c : Nat) : Sep v (.slice (some ⟨n, 0, none⟩) m c) := fun g h1 h2 => by
  simp [Value.ownBlock] at h2; subst h2; have := (World.ownsRow.lt h _ h1).2; omega

set_option maxRecDepth 100000 in
set_option maxHeartbeats 20000000 in
theorem rGreedy_any (v : Value) (l : List Int) (s k : Int) (w : World) (h : SI w v l) :
    Calls Try.prog 21 #[v, .int .i64 s, .int .i64 k] w (RetSE w (greedyL l s k) (rightE l s k)) := by
  have H := Lib.hid h
  obtain ⟨a, cap, rfl, h1, h2, h3⟩ := h
  have H3 := Lib.hid h3
  clear h3
  have hm9 : l.length ≤ 9223372036854775807 := by unfold maxLen at h2; omega
  obtain ⟨iB, hi, hz0, hz1, hz2⟩ := info_parts Try_infoBool
  have HI := Lib.hid hi; have HZ0 := Lib.hid hz0; have HZ1 := Lib.hid hz1; have HZ2 := Lib.hid hz2
  clear hi hz0 hz1 hz2
  go_enter Try.func21, Try.ntmps21
  go_wp2_with fail
  refine (input_any _ l s k _ H.out).mono ?_
  rintro e w1 ⟨rfl, m, rfl⟩
  by_cases hr : rightE l s k = 0
  rotate_left
  · have hb : (rightE l s k != 0) = true := by simpa using hr
    have HE := Lib.hid (greedyL_bad hr)
    clear hr
    go_wp2_with fail
    go_ret2
    exact retSE rfl rfl (SS_nil _) HE.out.symm (below_drewN' (Below.refl _ _) _)
  have hb : (rightE l s k != 0) = false := by rw [hr]; rfl
  have HG := Lib.hid (rightE_zero.1 hr)
  have HE := Lib.hid (greedyL_good hr)
  have HR := Lib.hid hr
  have h256 := HG.out.len
  have hkf := HG.out.kerf
  have hst := HG.out.stock
  rw [hr]
  clear hr
  have HB1 : Hid (Below w.heap.size w (w.drewN m)) := below_drewN' (Below.refl _ _) _
  have hwz : w.heap.size ≤ (w.drewN m).heap.size := Nat.le_refl _
  generalize w.drewN m = w1 at *
  go_wp2_with (at_make; refine wpList_make_full _ rfl _ _ 72 rfl w1.heap.size 4 iB (.bool false) 1 Try.underlying72 HI.out HZ0.out HZ1.out _ _ _ _ l.length rfl rfl rfl rfl ?c1 ?c2 (Nat.le_refl _) ?_)
  case c1 => rw [HZ2.out]; omega
  case c2 => unfold maxLen; omega
  intro w2 hown hgrow
  rw [← seenM_nil] at hown
  have HB2 := Lib.hid (grownBy_below hgrow)
  have HO2 : Hid (RGr w2 w1.heap.size (.slice none 0 0) (.slice none 0 0) l.length ((ordG l).take 0) (planG l s k 0).1 [] (usL s (planG l s k 0).2)) := ⟨Two.nil _ _, hown, hgrow.size⟩
  clear hown hgrow
  go_wp2_with fail
  go_loopg [9, 10, 12, 13, 14, 15] l.length (fun g o f i _ _ _ wr => ∃ n : Nat, n ≤ l.length ∧ i = .int .i64 n ∧ g = l.length - n ∧ Hid (Below w1.heap.size w1 wr) ∧ Hid (∃ vs, RGr wr w1.heap.size o f l.length ((ordG l).take n) (planG l s k n).1 vs (usL s (planG l s k n).2)))
  case atStart => exact ⟨0, Nat.zero_le _, rfl, by omega, HB2.out, [], HO2.out⟩
  case round =>
    obtain ⟨n, hn, rfl, rfl, hbw, hrg⟩ := hrel
    obtain ⟨vs, hrg⟩ := hrg.out
    have HRG := Lib.hid hrg
    have HBW := Lib.hid (HB1.out.trans (hbw.out.mono hwz))
    clear hrg
    by_cases hlt : n < l.length
    rotate_left
    · obtain rfl : n = l.length := by omega
      have HSS := Lib.hid HRG.out.two.tab.ownT.ss
      go_wp2_with fail
      go_ret2
      exact retSE rfl HR.out.symm HSS.out HE.out.symm HBW.out
    have HT0 := Lib.hid (ordG_next hlt)
    have HTS := Lib.hid (ordG_take_succ hlt)
    have HFT := Lib.hid (fit_plan HG.out n hn)
    have HSU := Lib.hid (planG_succ l s k n)
    have hom := ordG_mem (gi_mem (xs := ordG l) (k := n) (by rw [ordG_length]; omega))
    have HGB := Lib.hid (good_glI HG.out hom.1 hom.2)
    obtain ⟨T, hT⟩ : ∃ T, (ordG l).take n = T := ⟨_, rfl⟩
    rw [hT] at HRG HT0 HTS
    obtain ⟨x, hx⟩ : ∃ x, gi (ordG l) n = x := ⟨_, rfl⟩
    rw [hx] at HT0 HTS HSU hom HGB
    obtain ⟨x, rfl⟩ : ∃ z : Nat, x = (z : Int) := ⟨x.toNat, by omega⟩
    obtain ⟨st, hpl⟩ : ∃ st, planG l s k n = st := ⟨_, rfl⟩
    rw [hpl] at HRG HFT HSU
    obtain ⟨rs, fr⟩ := st
    dsimp only at HRG HFT HSU
    have hxl : x < l.length := by omega
    have hflen : fr.length = rs.length := HFT.out.len
    have hmost : rs.length ≤ n := HFT.out.most
    obtain ⟨at_, ct, eT, hct⟩ := HRG.out.two.slice_t
    obtain ⟨af, cf, eF, hcf⟩ := HRG.out.two.slice_f
    rw [usL_length, hflen] at eF hcf
    have HFL := Lib.hid hflen
    subst eT eF
    clear hT hx hpl hom hflen
    obtain ⟨bl, ol, hal, hcx⟩ := H3.out x hxl
    subst hal
    have HCX := Lib.hid hcx
    have hblw : bl < w.heap.size := World.block_lt_of_cell? w _ hcx
    have hlc : (l.length : Int) ≤ (cap : Int) := by omega
    have hle1 := HRG.out.le
    clear hcx
    go_wp2_with fail
    obtain ⟨wo, hwo⟩ : ∃ wo : World, wo = wr := ⟨_, rfl⟩
    subst hwo
    go_loopg [13, 14] l.length (fun g nx i wr => ∃ j : Nat, j ≤ l.length ∧ i = .int .i64 j ∧ g = l.length - j ∧ nx = .int .i64 (nextB (befG l) T j) ∧ ∃ q, wr = wo.drewN q)
    case atStart => exact ⟨0, Nat.zero_le _, rfl, by omega, rfl, 0, rfl⟩
    case round =>
      obtain ⟨j, hj, rfl, rfl, rfl, q, rfl⟩ := hrel
      have hnr := nextB_range l T j
      by_cases hjl : j < l.length
      · obtain ⟨b2, o2, e2, hcj⟩ := H3.out j hjl
        simp only [Option.some.injEq, Addr.mk.injEq] at e2
        obtain ⟨rfl, rfl, -⟩ := e2
        have hcj := cell_keep HBW.out hcj
        try dsimp only at hcj
        have hct := HRG.out.tk.cellAt j (by omega)
        rw [seenM_get T hjl] at hct
        have hjI : (j : Int) < (l.length : Int) := by omega
        have hjc : (j : Int) < (cap : Int) := by omega
        cases hsn : seenF T j
        rotate_left
        · rw [hsn] at hct
          have HN := Lib.hid (nextB_taken (l := l) hsn)
          clear hsn
          go_wp2_with fail
          go_quiet (fail)
          go_wp2_with fail
          go_roundg (l.length - (j + 1))
          case measure => omega
          case rel => exact ⟨j + 1, by omega, by go_num, rfl, by rw [HN.out], (by first | exact ⟨_, rfl⟩ | exact dn2 _ _ _)⟩
        rw [hsn] at hct
        have HF := Lib.hid (nextB_first (l := l) hsn)
        have HM := Lib.hid (nextB_more (l := l) hsn)
        have HL := Lib.hid (nextB_less (l := l) hsn)
        clear hsn
        obtain ⟨nx, hnx⟩ : ∃ nx, nextB (befG l) T j = nx := ⟨_, rfl⟩
        rw [hnx] at hnr HF HM HL ⊢
        clear hnx
        by_cases hn0 : nx < 0
        · have hd : decide (nx < 0) = true := by simpa using hn0
          have HN := Lib.hid (HF.out hn0)
          clear hn0
          go_wp2_with fail
          go_quiet (fail)
          go_wp2_with fail
          go_roundg (l.length - (j + 1))
          case measure => omega
          case rel => exact ⟨j + 1, by omega, by go_num, rfl, by rw [HN.out], (by first | exact ⟨_, rfl⟩ | exact dn2 _ _ _)⟩
        · have hd : decide (nx < 0) = false := by simpa using hn0
          obtain ⟨z, rfl⟩ : ∃ z : Nat, nx = (z : Int) := ⟨nx.toNat, by omega⟩
          obtain ⟨b3, o3, e3, hcz⟩ := H3.out z (by omega)
          simp only [Option.some.injEq, Addr.mk.injEq] at e3
          obtain ⟨rfl, rfl, -⟩ := e3
          have hcz := cell_keep HBW.out hcz
          try dsimp only at hcz
          have hzI : (z : Int) < (l.length : Int) := by omega
          have hzc : (z : Int) < (cap : Int) := by omega
          have ez : glI l (z : Int) = gi l z := by simp [glI]
          have ej : glI l (j : Int) = gi l j := by simp [glI]
          rw [ez, ej] at HM HL
          obtain ⟨lz, hlz⟩ : ∃ lz, gi l z = lz := ⟨_, rfl⟩
          obtain ⟨lj, hlj⟩ : ∃ lj, gi l j = lj := ⟨_, rfl⟩
          rw [hlz] at HM HL hcz
          rw [hlj] at HM HL hcj
          clear ez ej hlz hlj
          by_cases hc : lz < lj
          · have hd2 : decide (lz < lj) = true := by simpa using hc
            have HN := Lib.hid (HM.out hn0 hc)
            clear hn0 hc
            go_wp2_with fail
            go_quiet (fail)
            go_wp2_with fail
            go_roundg (l.length - (j + 1))
            case measure => omega
            case rel => exact ⟨j + 1, by omega, by go_num, rfl, by rw [HN.out], (by first | exact ⟨_, rfl⟩ | exact dn2 _ _ _)⟩
          · have hd2 : decide (lz < lj) = false := by simpa using hc
            have HN := Lib.hid (HL.out hn0 hc)
            clear hn0 hc
            go_wp2_with fail
            go_quiet (fail)
            go_wp2_with fail
            go_roundg (l.length - (j + 1))
            case measure => omega
            case rel => exact ⟨j + 1, by omega, by go_num, rfl, by rw [HN.out], (by first | exact ⟨_, rfl⟩ | exact dn2 _ _ _)⟩
      · obtain rfl : j = l.length := by omega
        rw [HT0.out]
        have htk := HRG.out.tk.cellAt x (by omega)
        rw [seenM_get T hxl] at htk
        have hfk := HRG.out.tk.frozenAt x
        have hxI : (x : Int) < (l.length : Int) := by omega
        have hxc : (x : Int) < (cap : Int) := by omega
        have HRD := Lib.hid ((HRG.out.dn q).take x)
        have HBD : Hid (Below w1.heap.size w1 ((wo.drewN q).setCell ⟨w1.heap.size, x, none⟩ (.bool true))) := bset (below_drewN' hbw.out q) (Nat.le_refl _) _ _
        have hneb : bl ≠ w1.heap.size := by omega
        clear hnr
        go_wp2_with fail
        clear htk hfk
        generalize (wo.drewN q).setCell ⟨w1.heap.size, x, none⟩ (.bool true) = ws at *
        have HXC : Hid (ws.cell? ⟨bl, ol + x, none⟩ = some (.int .i64 (gi l x))) := by
          have := cell_keep (HB1.out.trans (HBD.out.mono hwz)) HCX.out
          exact this
        have egl : glI l (x : Int) = gi l x := by simp [glI]
        have hgl := HGB.out
        rw [egl] at hgl
        obtain ⟨li, hli⟩ : ∃ li, gi l x = li := ⟨_, rfl⟩
        rw [hli] at hgl
        have HLI : Hid (glI l (x : Int) = li) := egl.trans hli
        have HLX := Lib.hid hli
        have hcx : ws.cell? ⟨bl, ol + x, none⟩ = some (.int .i64 li) := by have := HXC.out; rw [hli] at this; exact this
        clear egl hli HXC
        go_loopg [15] rs.length (fun g i wr => ∃ kk : Nat, kk ≤ rs.length ∧ i = .int .i64 kk ∧ g = rs.length - kk ∧ Hid (∀ j, j < kk → decide (li + k ≤ gi fr j) = false) ∧ ∃ q, wr = ws.drewN q)
        case atStart => exact ⟨0, Nat.zero_le _, rfl, by omega, fun j hj => by omega, 0, rfl⟩
        case round =>
          obtain ⟨kk, hkk, rfl, rfl, hall, q2, rfl⟩ := hrel
          have HRQ := Lib.hid (HRD.out.dn q2)
          have HBQ : Hid (Below w1.heap.size w1 (ws.drewN q2)) := below_drewN' HBD.out q2
          by_cases hkl : kk < rs.length
          · obtain ⟨gu, cu, eu, hcu, _, _, _, cellu, fzu⟩ := HRD.out.two.own.form (by rw [usL_length, HFL.out]; omega)
            simp only [Value.slice.injEq] at eu
            obtain ⟨rfl, -, rfl⟩ := eu
            have cU := cellu kk (by rw [usL_length, HFL.out]; exact hkl)
            have hkf2 : kk < fr.length := by rw [HFL.out]; exact hkl
            rw [gi_usL hkf2] at cU
            have fU := fzu kk
            have hyb := HFT.out.free kk hkf2
            dsimp only at hyb
            obtain ⟨y, hy⟩ : ∃ y, gi fr kk = y := ⟨_, rfl⟩
            rw [hy] at cU hyb
            have HY := Lib.hid hy
            have hkI : (kk : Int) < (rs.length : Int) := by omega
            have hkc : (kk : Int) < (cf : Int) := by omega
            have hkr : decide (kk < rs.length) = true := by simpa using hkl
            have e1 : IntKind.i64.wrap (s - y + k) = s - y + k := IntWalk.i64_in _ (by omega)
            have e2 : IntKind.i64.wrap (s - y + k + li) = s - y + k + li := IntWalk.i64_in _ (by omega)
            clear cellu fzu hy
            by_cases hfit : li + k ≤ y
            rotate_left
            · have hd : decide (s < s - y + k + li) = true := by rw [decide_eq_true_eq]; omega
              have HAL := Lib.hid (upto hall.out (show decide (li + k ≤ gi fr kk) = false by rw [HY.out]; simpa using hfit))
              clear hfit fU
              go_wp2_with fail
              go_quiet (fail)
              go_wp2_with fail
              go_roundg (rs.length - (kk + 1))
              case measure => omega
              case rel => exact ⟨kk + 1, by omega, by go_num, rfl, HAL.out, (by first | exact ⟨_, rfl⟩ | exact dn2 _ _ _)⟩
            · have hd : decide (s < s - y + k + li) = false := by rw [decide_eq_false_iff_not]; omega
              have HST := Lib.hid (stepG_old (l := l) (s := s) (k := k) (st := (rs, fr)) (i := (x : Int)) (t := kk) (by
                unfold fitG
                rw [HLI.out]
                exact findI_hit _ fr kk hkf2 hall.out (by rw [HY.out]; simpa using hfit)))
              clear hfit
              go_wp2_with fail
              go_quiet (fail)
              go_upto_region 20 with fail
              refine wp_dn (ws := ws) (by first | exact ⟨_, rfl⟩ | exact dn2 _ _ _) fun q3 => ?_
              obtain ⟨gt, capt, et, hct, _, _, _, _, _⟩ := HRD.out.two.tab.form (by omega)
              simp only [Value.slice.injEq] at et
              obtain ⟨rfl, -, rfl⟩ := et
              have HRZ := Lib.hid (HRD.out.dn q3)
              have HBZ : Hid (Below w1.heap.size w1 (ws.drewN q3)) := below_drewN' HBD.out q3
              clear HRQ HBQ cU fU hcx
              generalize ws.drewN q3 = wz at *
              have hlz := HRZ.out.le
              obtain ⟨_, _, et2, _, _, _, _, cells, _⟩ := HRZ.out.two.tab.form (by omega)
              simp only [Value.slice.injEq, Option.some.injEq, Addr.mk.injEq] at et2
              obtain ⟨⟨rfl, -, -⟩, -, rfl⟩ := et2
              have hct0 := cells kk hkl
              have hrl : (ri rs kk).length ≤ 1000000 := by have h9 : (ri rs kk).length ≤ n := HFT.out.rows kk hkl; omega
              have hneI : ((kk : Int) == (rs.length : Int)) = false := by rw [beq_eq_false_iff_ne]; omega
              have hkct : (kk : Int) < (ct : Int) := by omega
              have hW2 := Lib.hid (HRZ.out.two.alloc (.cells #[.int .i64 (x : Int)] 3))
              clear cells
              go_wp2_with (at_builtin; refine wpList_row_lit rfl (.tmp 104) (.tmp 106) rfl _ (x : Int) (vs.getD kk undef) (ri rs kk) rfl rfl (hW2.out.tab.row kk hkl) SI_new0 hrl (by simp; omega) ?_)
              intro gC cpC wC hoC hgC hatC
              obtain ⟨cC, fC⟩ := TabV.after hW2.out.tab rfl hkl hgC
              have HP := Lib.hid (Two.put hW2.out rfl hkl hgC hoC (by rcases hatC with e | e; exact .inl e; exact .inr (by rw [e]; simp [Value.ownBlock])))
              have hgtB := (hW2.out.tab.own.lt _ rfl).1
              have HBC : Hid (Below w1.heap.size w1 (wC.setCell ⟨gt, kk, none⟩ (.slice (some ⟨gC, 0, none⟩) ((ri rs kk).length + 1) cpC))) := bset ((HBZ.out.alloc hlz _).grown hgC (by simp; omega) (fun i hi => (World.ownsRow.lt (hW2.out.tab.row kk hkl) i hi).1)) hgtB _ _
              have hgtne : gt ≠ w1.heap.size := fun e => ne_tk HRZ.out HRZ.out.two.tab.own (by decide) (by rw [e]; rfl)
              have HTKC : Hid ((wC.setCell ⟨gt, kk, none⟩ (.slice (some ⟨gC, 0, none⟩) ((ri rs kk).length + 1) cpC)).ownsRow w1.heap.size 4 1 (.slice (some ⟨w1.heap.size, 0, none⟩) l.length l.length) l.length (seenM (T ++ [(x : Int)]) l.length)) :=
                World.ownsRow.kept (World.ownsRow.kept (World.ownsRow.alloc HRZ.out.tk _) hgC (.inr (by simp only [Value.ownBlock]; exact fun e => ne_tk HRZ.out (HRZ.out.two.tab.row kk hkl) (by decide) e.symm))) (grownBy_set _ gt _ _) (.inr (by simp only [Value.ownBlock]; exact fun e => hgtne (by simpa using e.symm)))
              clear hoC hgC hatC hct0
              go_wp2_with fail
              generalize wC.setCell ⟨gt, kk, none⟩ (.slice (some ⟨gC, 0, none⟩) ((ri rs kk).length + 1) cpC) = wR at *
              clear cC fC
              have cU : wR.cell? ⟨gu, kk, none⟩ = some (.int .i64 (s - y)) := by
                obtain ⟨_, _, eu2, _, _, _, _, cu2, _⟩ := HP.out.own.form (by rw [usL_length, HFL.out]; omega)
                simp only [Value.slice.injEq, Option.some.injEq, Addr.mk.injEq] at eu2
                obtain ⟨⟨rfl, -, -⟩, -, rfl⟩ := eu2
                have := cu2 kk (by rw [usL_length, HFL.out]; exact hkl)
                rw [gi_usL hkf2, HY.out] at this
                exact this
              have fU : wR.frozen? ⟨gu, kk, none⟩ = false := by
                obtain ⟨_, _, eu2, _, _, _, _, _, fu2⟩ := HP.out.own.form (by rw [usL_length, HFL.out]; omega)
                simp only [Value.slice.injEq, Option.some.injEq, Addr.mk.injEq] at eu2
                obtain ⟨⟨rfl, -, -⟩, -, rfl⟩ := eu2
                exact fu2 kk
              have hcxR : wR.cell? ⟨bl, ol + x, none⟩ = some (.int .i64 li) := by
                have h1 := cell_keep (HB1.out.trans (HBC.out.mono hwz)) HCX.out
                rw [HLX.out] at h1
                exact h1
              have hleR := HBC.out.size
              go_region
              all_goals
                have HP3 := Lib.hid (HP.out.setF rfl kk (s - y + k + li))
                have HTK3 : Hid ((wR.setCell ⟨gu, kk, none⟩ (.int .i64 (s - y + k + li))).ownsRow w1.heap.size 4 1 (.slice (some ⟨w1.heap.size, 0, none⟩) l.length l.length) l.length (seenM (T ++ [(x : Int)]) l.length)) :=
                  World.ownsRow.kept HTKC.out (grownBy_set _ gu _ _) (.inr (by
                    have := sep_of_types HP.out.own HTKC.out (by decide)
                    simp only [Value.ownBlock]
                    exact fun e => this w1.heap.size (by simpa [Value.ownBlock] using e.symm) rfl))
                have hguB := (World.ownsRow.lt HP.out.own gu rfl).1
                have HB3 : Hid (Below w1.heap.size w1 (wR.setCell ⟨gu, kk, none⟩ (.int .i64 (s - y + k + li)))) := bset HBC.out hguB _ _
                have HR3 := Lib.hid (show RGr (wR.setCell ⟨gu, kk, none⟩ (.int .i64 (s - y + k + li))) w1.heap.size _ _ l.length (T ++ [(x : Int)]) _ _ _ from ⟨HP3.out, HTK3.out, HB3.out.size⟩)
                have HR4 := Lib.hid (HR3.out.dn 1)
                clear cU fU hcxR
                go_wp2_with fail
                go_roundg (l.length - (n + 1))
                case measure => omega
                case rel =>
                  refine ⟨n + 1, by omega, by go_num, rfl, HB3.out.drew, vs.set kk (.slice (some ⟨gC, 0, none⟩) ((ri rs kk).length + 1) cpC), ?_⟩
                  rw [HTS.out, HSU.out, HST.out, usL_set, HLI.out, HY.out, show s - (y - (li + k)) = s - y + k + li by omega]
                  exact HR4.out
          · have hkr : decide (kk < rs.length) = false := by simpa using hkl
            obtain rfl : kk = rs.length := by omega
            have HST := Lib.hid (stepG_new (l := l) (s := s) (k := k) (st := (rs, fr)) (i := (x : Int)) (by
              unfold fitG
              rw [HLI.out, findI_miss _ fr (fun j hj => hall.out j (by rw [← HFL.out]; exact hj))]
              omega))
            go_wp2_with fail
            go_quiet (fail)
            go_upto_region 20 with fail
            refine wp_dn (ws := ws) (by first | exact ⟨_, rfl⟩ | exact dn2 _ _ _) fun q3 => ?_
            have HRZ := Lib.hid (HRD.out.dn q3)
            have HBZ : Hid (Below w1.heap.size w1 (ws.drewN q3)) := below_drewN' HBD.out q3
            generalize ws.drewN q3 = wz at *
            have hlz := HRZ.out.le
            have hW2 := Lib.hid ((HRZ.out.two.alloc (.cells #[.int .i64 (x : Int)] 3)).alloc (.cells #[.slice (some ⟨wz.heap.size, 0, none⟩) 1 1] 36))
            have hRow := Lib.hid ((OwnI_new wz hlz (x : Int)).alloc (.cells #[.slice (some ⟨wz.heap.size, 0, none⟩) 1 1] 36))
            have HSF : Hid (Sep (.slice (some ⟨wz.heap.size, 0, none⟩) 1 1) (.slice af rs.length cf)) := (sep_new HRZ.out.two.own (Nat.le_refl _) 1 1).symm
            have HSR : Hid (∀ i, i < rs.length → Sep (vs.getD i undef) (.slice (some ⟨wz.heap.size, 0, none⟩) 1 1)) := fun i hi => sep_new (HRZ.out.two.tab.row i hi) (Nat.le_refl _) 1 1
            go_wp2_with (at_builtin; refine wpList_two_tab rfl (.tmp 87) (.tmp 90) rfl _ (.slice (some ⟨wz.heap.size, 0, none⟩) 1 1) [(x : Int)] rfl rfl hW2.out Lit1_new1 rfl hRow.out HSF.out HSR.out (by omega) (by simp; omega) ?_)
            intro t5 w5 h5 hg5
            have H5 := Lib.hid h5
            have HB5 : Hid (Below w1.heap.size w1 w5) := ((HBZ.out.alloc hlz _).alloc (by simp; omega) _).grown hg5 (by simp; omega) (fun i hi => (hW2.out.tab.own.lt i hi).1)
            have HTK5 : Hid (w5.ownsRow w1.heap.size 4 1 (.slice (some ⟨w1.heap.size, 0, none⟩) l.length l.length) l.length (seenM (T ++ [(x : Int)]) l.length)) :=
              World.ownsRow.kept ((World.ownsRow.alloc HRZ.out.tk _).alloc _) hg5 (.inr (by simp only [Value.ownBlock]; exact fun e => ne_tk HRZ.out HRZ.out.two.tab.own (by decide) e.symm))
            have hle5 := HB5.out.size
            have hcx5 : w5.cell? ⟨bl, ol + x, none⟩ = some (.int .i64 li) := by
              have h1 := cell_keep (HB1.out.trans (HB5.out.mono hwz)) HCX.out
              have h2 := cell_keep (HB1.out.trans (HBD.out.mono hwz)) HCX.out
              rw [hcx] at h2
              rw [h1, ← h2]
            clear h5 hg5 hcx
            go_wp2_with (at_builtin; refine wpList_app_int rfl (.tmp 92) (.tmp 97) rfl w1.heap.size _ _ (usL s fr) [li] rfl rfl (H5.out.own.alloc _) (SI_one _ _ _) (by rw [usL_length, HFL.out]; simp; omega) (by simp; omega) ?_)
            intro f6 w6 ho6 hg6 hat6
            have HT6 := Lib.hid ((H5.out.alloc (.cells #[.int .i64 li] 3)).pushF ho6 hg6 (by simpa using hat6))
            have HB6 : Hid (Below w1.heap.size w1 w6) := (HB5.out.alloc hle5 _).grown hg6 (by simp; omega) (fun i hi => (World.ownsRow.lt H5.out.own i hi).1)
            have HR6 : Hid (RGr w6 w1.heap.size t5 f6 l.length (T ++ [(x : Int)]) (rs ++ [[(x : Int)]]) (vs ++ [.slice (some ⟨wz.heap.size, 0, none⟩) 1 1]) (usL s fr ++ [li])) :=
              ⟨HT6.out, World.ownsRow.kept (World.ownsRow.alloc HTK5.out _) hg6 (.inr (by simp only [Value.ownBlock]; exact fun e => sep_of_types H5.out.own HTK5.out (by decide) _ e.symm rfl)), HB6.out.size⟩
            clear ho6 hg6 hat6 hcx5
            go_wp2_with fail
            go_roundg (l.length - (n + 1))
            case measure => omega
            case rel =>
              refine ⟨n + 1, by omega, by go_num, rfl, HB6.out, vs ++ [.slice (some ⟨wz.heap.size, 0, none⟩) 1 1], ?_⟩
              rw [HTS.out, HSU.out, HST.out, usL_app, HLI.out, show s - (s + k - (li + k)) = li by omega]
              exact HR6.out
end Go.Proofs.Ytlgepggmgfnneaa
