/- A region that draws its order and whose operations have values known ahead: each operation is looked at once. -/
import Derived.Test.YtfpnjbomlmhlpaaGreatPk06
import Derived.Test.YtfpnjbomlmhlpaaGreatPk01
set_option linter.unusedSimpArgs false
set_option linter.unusedVariables false

/- Contract: Order of dag. -/
namespace Go.Proofs.YtfpnjbomlmhlpaaGreat
open Go.RowKit

/-- edges among the first m that lead to v from nodes that are not taken -/
def cntE (E : Edg) (T : List Nat) (m v : Nat) : Nat := ((E.take m).filter fun e => e.2 == v && !T.contains e.1).length
def fromE (E : Edg) (v m u : Nat) : Nat := ((E.take m).filter fun e => e.1 == v && e.2 == u).length
theorem cnt_take {E : Edg} {T : List Nat} {m : Nat} (h : m < E.length) (v : Nat) : cntE E T (m + 1) v = cntE E T m v + if (egi E m).2 = v ∧ T.contains (egi E m).1 = false then 1 else 0 := by
  unfold cntE
  rw [take_egi h, List.filter_append, List.length_append, List.filter_cons, List.filter_nil]
  congr 1
  by_cases h1 : (egi E m).2 = v
  · cases h2 : T.contains (egi E m).1 <;> simp [h1, h2]
  · simp [h1]
theorem from_take {E : Edg} {v m : Nat} (h : m < E.length) (u : Nat) : fromE E v (m + 1) u = fromE E v m u + if (egi E m).1 = v ∧ (egi E m).2 = u then 1 else 0 := by
  unfold fromE
  rw [take_egi h, List.filter_append, List.length_append, List.filter_cons, List.filter_nil]
  congr 1
  by_cases h1 : (egi E m).1 = v
  · by_cases h2 : (egi E m).2 = u <;> simp [h1, h2]
  · simp [h1]
theorem cnt_more {T : List Nat} {v : Nat} (hv : v ∉ T) (u : Nat) : ∀ E : Edg, (E.filter fun e => e.2 == u && !T.contains e.1).length = (E.filter fun e => e.2 == u && !(T ++ [v]).contains e.1).length + (E.filter fun e => e.1 == v && e.2 == u).length
  | [] => rfl
  | e :: E => by
    have ih := cnt_more hv u E
    have hc : (T ++ [v]).contains e.1 = (T.contains e.1 || e.1 == v) := by
      rw [Bool.eq_iff_iff, Bool.or_eq_true, List.contains_iff_mem, List.contains_iff_mem, beq_iff_eq]; simp
    have hx : (e.1 == v) = true → T.contains e.1 = false := fun h => by
      rw [← Bool.not_eq_true, List.contains_iff_mem, eq_of_beq h]; exact hv
    simp only [List.filter_cons]
    rw [hc]
    revert hx
    generalize (e.2 == u) = b2
    generalize (e.1 == v) = b1
    generalize T.contains e.1 = b3
    intro hx
    cases b1 <;> cases b2 <;> cases b3 <;> first
      | (exact absurd (hx rfl) (by decide))
      | (simp only [Bool.true_and, Bool.false_and, Bool.and_true, Bool.and_false, Bool.not_true, Bool.not_false, Bool.or_true, Bool.or_false, Bool.true_or, Bool.false_or, if_true, if_false, Bool.false_eq_true, List.length_cons]; omega)
theorem cnt_next {E : Edg} {T : List Nat} {v : Nat} (hv : v ∉ T) (u : Nat) : cntE E T E.length u = cntE E (T ++ [v]) E.length u + fromE E v E.length u := by
  unfold cntE fromE
  rw [List.take_length]
  exact cnt_more hv u E
theorem from_le {E : Edg} {T : List Nat} {v : Nat} (hv : v ∉ T) (m u : Nat) : fromE E v m u ≤ cntE E T E.length u := by
  have h1 := cnt_next (E := E) hv u
  have h2 : fromE E v m u ≤ fromE E v E.length u := by
    unfold fromE
    rw [List.take_length]
    exact ((List.take_sublist m E).filter _).length_le
  omega
theorem cnt_le (E : Edg) (T : List Nat) (m v : Nat) : cntE E T m v ≤ E.length := by
  unfold cntE
  exact Nat.le_trans (List.length_filter_le _ _) (by rw [List.length_take]; omega)
theorem open_cnt (E : Edg) (T : List Nat) (v : Nat) : openV E T v = (!T.contains v && !decide (0 < ((cntE E T E.length v : Nat) : Int))) := by
  unfold openV
  congr 1
  rw [Bool.eq_iff_iff, List.all_eq_true, Bool.not_eq_true', decide_eq_false_iff_not]
  unfold cntE
  rw [List.take_length]
  constructor
  · intro h h0
    have h0 : 0 < (E.filter fun e => e.2 == v && !T.contains e.1).length := by omega
    obtain ⟨e, he⟩ := List.exists_mem_of_length_pos h0
    have h1 := List.mem_filter.1 he
    have h2 := h e h1.1
    have h3 := h1.2
    rw [Bool.and_eq_true] at h3
    rw [h3.1] at h2
    rw [Bool.not_true, Bool.false_or] at h2
    rw [h2] at h3
    exact absurd h3.2 (by decide)
  · intro h e he
    by_cases h1 : (e.2 == v) = true
    · rw [h1, Bool.not_true, Bool.false_or]
      cases h2 : T.contains e.1
      · exfalso; apply h
        have : e ∈ E.filter fun e => e.2 == v && !T.contains e.1 := List.mem_filter.2 ⟨he, by rw [h1, h2]; rfl⟩
        have := List.length_pos_of_mem this
        omega
      · rfl
    · rw [Bool.not_eq_true] at h1; rw [h1]; rfl
def natI (l : List Nat) : List Int := l.map fun n : Nat => (n : Int)
/-- what the loops work with: the counts at g1, the taken at g3, the order in its own row -/
structure DagP (w w' : World) (B g1 g3 n : Nat) (T : List Nat) (F : Nat → Nat) (o : Value) : Prop where
  c : ObjAt w' g1 (rowA n fun v => .int .i64 (F v : Nat)) 3
  t : ObjAt w' g3 (rowA n fun v => .bool (T.contains v)) 4
  o : OwnI w' B o (natI T)
  bw : Below w.heap.size w w'
theorem set_grown (w : World) (b k : Nat) (x : Value) : w.grownBy (w.setCell ⟨b, k, none⟩ x) (some b) := ⟨rfl, rfl, rfl, by simp [World.setCell], fun j hj hn => Below.heap_setCell _ _ _ _ (fun e => hn (by simp [e]))⟩
section
variable {w w' w'' : World} {B g1 g3 n : Nat} {T : List Nat} {F : Nat → Nat} {o : Value}
theorem DagP.below (h : DagP w w' B g1 g3 n T F o) (hb : Below w'.heap.size w' w'') : DagP w w'' B g1 g3 n T F o := ⟨h.c.keep hb, h.t.keep hb, h.o.below hb, ext_trans h.bw hb⟩
/-- a count is set -/
theorem DagP.setC (h : DagP w w' B g1 g3 n T F o) (h1 : w.heap.size ≤ g1) (h2 : g1 < B) (h3 : g1 ≠ g3) (u : Nat) (q : Nat) {G : Nat → Nat} (hG : ∀ k, k < n → G k = if k = u then q else F k) : DagP w (w'.setCell ⟨g1, u, none⟩ (.int .i64 q)) B g1 g3 n T G o := by
  refine ⟨?_, h.t.other (Ne.symm h3) _ _, World.ownsRow.kept h.o (set_grown _ _ _ _) (.inr fun e => by have := (World.ownsRow.lt h.o g1 e).1; omega), h.bw.setCell (p := ⟨g1, u, none⟩) h1 _⟩
  have := h.c.set u (.int .i64 q)
  rw [rowA_set] at this
  rw [rowA_congr (g := fun j => if j = u then .int .i64 q else .int .i64 (F j : Nat)) fun k hk => by rw [hG k hk]; split <;> rfl]
  exact this
end
theorem dec_one {c f f' : Nat → Nat} {a b v q : Nat} (hv : a = v) (hq : c b - f b = q + 1) (hf : ∀ u, f' u = f u + if a = v ∧ b = u then 1 else 0) (u : Nat) : c u - f' u = if u = b then q else c u - f u := by
  have h := hf u
  by_cases e : u = b
  · subst e
    rw [if_pos ⟨hv, rfl⟩] at h
    rw [if_pos rfl, h]
    omega
  · rw [if_neg (fun h => e h.2.symm)] at h
    rw [if_neg e, h]; rfl
set_option maxRecDepth 100000 in
set_option maxHeartbeats 2000000 in
theorem Order_any (n : Nat) (ev : Value) (E : Edg) (w : World) (h : SEg w ev E) (hE : EdgOK n E) (hn : n ≤ 256) (hl : E.length ≤ 100000) : Calls Tryz.prog 31 #[.int .i64 n, ev] w fun e w' => ∃ v, e = .returned (.tuple #[v, .int .i64 (if (topo n E n).length = n then 0 else 20)]) ∧ ((topo n E n).length = n → SI w' v (natI (topo n E n))) ∧ Below w.heap.size w w' := by
  have HEN := Lib.hid (ends_any n ev E w h hE (by omega))
  obtain ⟨a, cap, rfl, h1, h2, h3⟩ := h
  have H3 := Lib.hid h3; have HE := Lib.hid hE
  clear h3 hE
  have hm : E.length ≤ 9223372036854775807 := by omega
  have mk1 := make_ints n (by omega)
  have mk2 := make_room n (by omega)
  have mk3 := make_bools n (by omega)
  have d1 : ¬ ((n : Int) < 0) := by omega
  have d2 : ¬ ((256 : Int) < n) := by omega
  go_enter Tryz.func31, Tryz.ntmps31
  go_wp2_with fail
  go_step3
  go_wp2_with fail
  refine HEN.out.mono ?_
  rintro e w1 ⟨rfl, h1'⟩
  have HB1 := Lib.hid h1'
  clear h1' HEN d1 d2
  obtain ⟨W2, hW2⟩ : ∃ W2, w1.alloc (.cells (rowA n fun _ => .int .i64 0) 3) = W2 := ⟨_, rfl⟩
  have HO0 : Hid (ObjAt W2 w1.heap.size (rowA n fun v => .int .i64 (cntE E [] 0 v : Nat)) 3) := by show ObjAt ..; rw [← hW2]; exact ObjAt.new _ _ _
  have HB2 : Hid (Below w.heap.size w W2) := by show Below ..; rw [← hW2]; exact HB1.out.alloc HB1.out.size _
  have HS2 : Hid (w1.heap.size + 1 = W2.heap.size) := by show _ = _; rw [← hW2]; simp
  have HW2 := Lib.hid hW2
  clear hW2
  go_upto_region 7 with fail
  rw [HW2.out]
  clear HW2 mk1
  go_wp2_with fail
  go_loopw [31] (fun i wr => ∃ k : Nat, k ≤ E.length ∧ i = .int .i64 k ∧ Hid (Below w.heap.size w wr) ∧ Hid (W2.heap.size ≤ wr.heap.size) ∧ Hid (ObjAt wr w1.heap.size (rowA n fun v => .int .i64 (cntE E [] k v : Nat)) 3)) (fun i _ => E.length - (intOf i).toNat)
  case atStart => exact ⟨0, Nat.zero_le _, rfl, HB2, Nat.le_refl _, HO0⟩
  case round =>
    obtain ⟨k, hk, rfl, hb, hsz, ho⟩ := hrel
    by_cases hlt : k < E.length
    · obtain ⟨b, off, rfl, hc⟩ := H3.out k hlt
      obtain ⟨c0, c1⟩ := hc.keep hb.out
      obtain ⟨W3, HO3, HC3, HW, HZ3⟩ := copyEg wr (egi E k)
      have HB3 := Lib.hid (ext_trans hb.out HC3.out)
      have HR3 := Lib.hid (ho.out.keep HC3.out)
      obtain ⟨e1, e2, e3⟩ := HE.out _ (egi_mem hlt)
      have HCT := Lib.hid (cnt_take (T := []) hlt)
      have HLE := Lib.hid (cnt_le E [] k (egi E k).2)
      have HSZ : Hid (w.heap.size ≤ w1.heap.size) := HB1.out.size
      generalize egi E k = x at *
      clear hc
      go_upto_region 10 with fail
      rw [HW.out]
      clear c0 c1 HW
      obtain ⟨c0, c1⟩ := egC HO3.out
      rw [Nat.zero_add] at c1
      have r1 : W3.cell? ⟨w1.heap.size, x.2, none⟩ = some (.int .i64 (cntE E [] k x.2 : Nat)) := by rw [HR3.out.cell]; exact rowA_get e2
      have r2 := HR3.out.frozen x.2
      have hle := HLE.out
      have w4 : IntKind.i64.wrap (((cntE E [] k x.2 : Nat) : Int) + 1) = ((cntE E [] k x.2 : Nat) : Int) + 1 := IntWalk.i64_in _ (by omega)
      have i1 : (x.2 : Int) < n := by omega
      have i2 : (0 : Int) ≤ x.2 := by omega
      have HR4 : Hid (ObjAt (W3.setCell ⟨w1.heap.size, x.2, none⟩ (.int .i64 (((cntE E [] k x.2 : Nat) : Int) + 1))) w1.heap.size (rowA n fun v => .int .i64 (cntE E [] (k + 1) v : Nat)) 3) := by
        have := HR3.out.set x.2 (.int .i64 (((cntE E [] k x.2 : Nat) : Int) + 1))
        rw [rowA_set] at this
        show ObjAt ..
        rw [rowA_congr (g := fun j => if j = x.2 then .int .i64 (((cntE E [] k x.2 : Nat) : Int) + 1) else .int .i64 (cntE E [] k j : Nat)) fun v hv => by
          rw [HCT.out v]
          by_cases e : v = x.2
          · subst e; rw [if_pos ⟨rfl, rfl⟩, if_pos rfl]; rfl
          · rw [if_neg (fun h => e h.1.symm), if_neg e]; rfl]
        exact this
      have HB4 : Hid (Below w.heap.size w (W3.setCell ⟨w1.heap.size, x.2, none⟩ (.int .i64 (((cntE E [] k x.2 : Nat) : Int) + 1)))) := HB3.out.setCell (p := ⟨w1.heap.size, x.2, none⟩) HSZ.out _
      have HS4 : Hid (W2.heap.size ≤ (W3.setCell ⟨w1.heap.size, x.2, none⟩ (.int .i64 (((cntE E [] k x.2 : Nat) : Int) + 1))).heap.size) := by
        show _ ≤ _
        have a1 := hsz.out; have a2 := HC3.out.size
        simp; omega
      clear HCT HLE
      go_wp2_with fail
      go_roundw
      case rel => exact ⟨k + 1, by omega, by go_num, HB4, HS4, HR4⟩
      case measure => simp [intOf]; omega
    · obtain rfl : k = E.length := by omega
      have HSZ1 : Hid (w.heap.size ≤ w1.heap.size) := HB1.out.size
      have hs1 : w1.heap.size < wr.heap.size := by have := HS2.out; have := hsz.out; omega
      obtain ⟨WA, hWA⟩ : ∃ WA, wr.alloc (.cells (rowA n fun _ => .int .i64 0) 3) = WA := ⟨_, rfl⟩
      have HOW : Hid (OwnI WA wr.heap.size (.slice (some ⟨wr.heap.size, 0, none⟩) 0 n) (natI [])) := by show OwnI ..; rw [← hWA]; exact room_own wr n (by omega) (Nat.le_refl _)
      have HCA : Hid (ObjAt WA w1.heap.size (rowA n fun v => .int .i64 (cntE E [] E.length v : Nat)) 3) := by show ObjAt ..; rw [← hWA]; exact ho.out.alloc _
      have HBA : Hid (Below w.heap.size w WA) := by show Below ..; rw [← hWA]; exact hb.out.alloc hb.out.size _
      have HSA : Hid (WA.heap.size = wr.heap.size + 1) := by show _ = _; rw [← hWA]; simp
      have HWA := Lib.hid hWA
      clear hWA
      obtain ⟨WB, hWB⟩ : ∃ WB, WA.alloc (.cells (rowA n fun _ => .bool false) 4) = WB := ⟨_, rfl⟩
      have HP0 : Hid (DagP w WB wr.heap.size w1.heap.size WA.heap.size n (topo n E 0) (cntE E (topo n E 0) E.length) (.slice (some ⟨wr.heap.size, 0, none⟩) 0 n)) := by
        show DagP ..
        rw [← hWB]
        exact ⟨HCA.out.alloc _, ObjAt.new _ _ _, HOW.out.alloc _, HBA.out.alloc HBA.out.size _⟩
      have HWB := Lib.hid hWB
      clear hWB
      have hs1 := Lib.hid hs1
      go_upto_region 13 with fail
      rw [HWA.out]
      clear HWA mk2
      go_wp2_with fail
      rw [HWB.out]
      clear HWB mk3
      have hg13 : w1.heap.size < wr.heap.size := hs1.out
      have hg23 : WA.heap.size = wr.heap.size + 1 := HSA.out
      have hwg : w.heap.size ≤ w1.heap.size := HSZ1.out
      generalize WA.heap.size = g3 at *
      generalize wr.heap.size = g2 at *
      generalize w1.heap.size = g1 at *
      have HG13 := Lib.hid hg13; have HG23 := Lib.hid hg23; have HWG := Lib.hid hwg
      clear ho HOW HCA HBA HSA hb hsz hs1 hg13 hg23 hwg
      rw [show decide ((n : Int) < 0) = false from decide_eq_false (by omega), show decide ((256 : Int) < n) = false from decide_eq_false (by omega), Bool.or_false]
      go_step3
      go_wp2_with fail
      go_loopg [10] (n + 1) (fun g o wr => ∃ k : Nat, k ≤ n ∧ g = n + 1 - k ∧ (∃ a c, o = .slice a k c) ∧ Hid ((topo n E k).length = k) ∧ Hid (DagP w wr g2 g1 g3 n (topo n E k) (cntE E (topo n E k) E.length) o))
      case atStart => exact ⟨0, Nat.zero_le _, by omega, ⟨_, _, rfl⟩, rfl, HP0⟩
      case round =>
        obtain ⟨k, hk, rfl, ⟨oa, oc, rfl⟩, hlen, hp⟩ := hrel
        by_cases hlt : k < n
        · obtain ⟨T, hT⟩ : ∃ T, topo n E k = T := ⟨_, rfl⟩
          have HT := Lib.hid hT
          rw [hT] at hlen hp
          clear hT
          go_wp2_with fail
          go_loopg [10, 52] (n + 1) (fun g o i w' => ∃ v : Nat, v ≤ n ∧ g = n + 1 - v ∧ i = .int .i64 v ∧ o = .slice oa k oc ∧ wr = w' ∧ Hid (∀ u, u < v → openV E T u = false))
          case atStart => exact ⟨0, Nat.zero_le _, by omega, rfl, rfl, rfl, fun u hu => by omega⟩
          case round =>
            obtain ⟨v, hv, rfl, rfl, rfl, rfl, hop⟩ := hrel
            by_cases hlt2 : v < n
            · have r1 : wr.cell? ⟨g3, v, none⟩ = some (.bool (T.contains v)) := by rw [hp.out.t.cell]; exact rowA_get hlt2
              have r2 : wr.cell? ⟨g1, v, none⟩ = some (.int .i64 (cntE E T E.length v : Nat)) := by rw [hp.out.c.cell]; exact rowA_get hlt2
              have HOC := Lib.hid (open_cnt E T v)
              have i1 : (v : Int) < n := by omega
              have i2 : (0 : Int) ≤ v := by omega
              obtain ⟨cv, hcv⟩ : ∃ cv, T.contains v = cv := ⟨_, rfl⟩
              have HCV := Lib.hid hcv
              rw [hcv] at r1 HOC
              obtain ⟨q, hq⟩ : ∃ q, cntE E T E.length v = q := ⟨_, rfl⟩
              have HQ := Lib.hid hq
              rw [hq] at r2 HOC
              clear hcv hq
              by_cases hcl : (!cv && !decide (0 < (q : Int))) = true
              rotate_left
              · rw [Bool.not_eq_true] at hcl
                have HJ : Hid (∀ u, u < v + 1 → openV E T u = false) := upto (q := fun u => openV E T u = false) hop.out (HOC.out.trans hcl)
                cases cv
                · have hq0 : (0 : Int) < q := by
                    rw [Bool.not_false, Bool.true_and, Bool.not_eq_false', decide_eq_true_eq] at hcl; exact hcl
                  clear hcl HOC
                  go_wp2_with fail
                  go_roundg (n + 1 - (v + 1))
                  case measure => omega
                  case rel => exact ⟨v + 1, by omega, rfl, by go_num, rfl, rfl, HJ⟩
                · clear hcl HOC
                  go_wp2_with fail
                  go_roundg (n + 1 - (v + 1))
                  case measure => omega
                  case rel => exact ⟨v + 1, by omega, rfl, by go_num, rfl, rfl, HJ⟩
              · have hcv0 : cv = false := by
                  rw [Bool.and_eq_true, Bool.not_eq_true'] at hcl; exact hcl.1
                subst hcv0
                have hq0 : ¬ (0 : Int) < q := by
                  rw [Bool.and_eq_true, Bool.not_eq_true', Bool.not_eq_true', decide_eq_false_iff_not] at hcl; exact hcl.2
                have HOP : Hid (openV E T v = true) := HOC.out.trans hcl
                have HTP : Hid (topo n E (k + 1) = T ++ [v]) := by
                  show (match stepT n E (topo n E k) with | some v => topo n E k ++ [v] | none => topo n E k) = _
                  rw [HT.out, stepT_hit hlt2 HOP.out hop.out]
                have HNV : Hid (v ∉ T) := (openV_iff.1 HOP.out).1
                have r3 := hp.out.t.frozen v
                obtain ⟨WS, hWS⟩ : ∃ WS, wr.setCell ⟨g3, v, none⟩ (.bool true) = WS := ⟨_, rfl⟩
                have HTS : Hid (ObjAt WS g3 (rowA n fun u => .bool ((T ++ [v]).contains u)) 4) := by
                  show ObjAt ..
                  rw [← hWS]
                  have := hp.out.t.set v (.bool true)
                  rw [rowA_set] at this
                  rw [rowA_congr (g := fun j => if j = v then .bool true else .bool (T.contains j)) fun u hu => by
                    by_cases e : u = v
                    · subst e; rw [if_pos rfl, show (T ++ [u]).contains u = true from List.contains_iff_mem.2 (by simp)]
                    · rw [if_neg e, show (T ++ [v]).contains u = T.contains u by rw [Bool.eq_iff_iff, List.contains_iff_mem, List.contains_iff_mem]; simp [e]]]
                  exact this
                have hne13 : g1 ≠ g3 := by have := HG13.out; have := HG23.out; omega
                have HCS : Hid (ObjAt WS g1 (rowA n fun u => .int .i64 (cntE E T E.length u : Nat)) 3) := by show ObjAt ..; rw [← hWS]; exact hp.out.c.other hne13 _ _
                have HOS : Hid (OwnI WS g2 (.slice oa k oc) (natI T)) := by show OwnI ..; rw [← hWS]; exact hp.out.t.rowSet hp.out.o (by decide) _ _
                have HBS : Hid (Below w.heap.size w WS) := by show Below ..; rw [← hWS]; exact hp.out.bw.setCell (p := ⟨g3, v, none⟩) (by have := HG13.out; have := HG23.out; have := HWG.out; show _ ≤ g3; omega) _
                have HZS : Hid (g2 ≤ WS.heap.size) := by show _ ≤ _; rw [← hWS]; have := hp.out.t.lt; have := HG23.out; simp [World.setCell]; omega
                have HLT : Hid ((natI T).length + ([(v : Int)] : List Int).length ≤ 100000000) := by show _ ≤ _; unfold natI; rw [List.length_map, hlen.out]; simp only [List.length_singleton]; omega
                have HWS := Lib.hid hWS
                clear hWS hcl HOC
                go_upto_region 20 with fail
                rw [HWS.out]
                clear HWS r1 r2 r3
                go_wp2_with (at_builtin; refine wpList_app_int rfl (.tmp 69) (.tmp 71) rfl g2 (.slice oa k oc) _ (natI T) [(v : Int)] rfl rfl (HOS.out.alloc _) (SI_one _ _ _) HLT.out (by have := HZS.out; simp; omega) ?_)
                intro va wa hoa hga _
                have HLE : Hid (fromE E v 0 = fun _ => 0) := by show _ = _; funext u; rfl
                have HOA : Hid (OwnI wa g2 va (natI (T ++ [v]))) := by show OwnI ..; unfold natI; rw [List.map_append]; exact hoa
                have HPA : Hid (DagP w wa g2 g1 g3 n (T ++ [v]) (fun u => cntE E T E.length u - fromE E v 0 u) va) := by
                  show DagP ..
                  rw [HLE.out]
                  refine ⟨(HCS.out.alloc _).grown hga (fun e => ?_), (HTS.out.alloc _).grown hga (by show (Value.slice oa k oc).ownBlock ≠ some g3; exact HTS.out.ne HOS.out (by decide)), HOA.out, (HBS.out.alloc HBS.out.size _).grown hga (by have := HBS.out.size; simp; omega) (fun q hq => ?_)⟩
                  · have := (World.ownsRow.lt HOS.out g1 e).1; have := HG13.out; omega
                  · have := (World.ownsRow.lt HOS.out q hq).1; have := HG13.out; have := HWG.out; omega
                obtain ⟨pa, pc, hpa, _⟩ := HOA.out.si
                have hpl : (natI (T ++ [v])).length = k + 1 := by unfold natI; rw [List.length_map, List.length_append, hlen.out]; rfl
                rw [hpl] at hpa
                subst hpa
                clear hoa hga hpl HOA HOS HCS HTS HBS HZS HLT
                go_wp2_with fail
                go_loopg [75] (E.length + 1) (fun g i w' => ∃ m : Nat, m ≤ E.length ∧ g = E.length + 1 - m ∧ i = .int .i64 m ∧ Hid (DagP w w' g2 g1 g3 n (T ++ [v]) (fun u => cntE E T E.length u - fromE E v m u) (.slice pa (k + 1) pc)))
                case atStart => exact ⟨0, Nat.zero_le _, by omega, rfl, HPA⟩
                case round =>
                  obtain ⟨m, hm2, rfl, rfl, hp2⟩ := hrel
                  by_cases hlt3 : m < E.length
                  · obtain ⟨b, off, rfl, hc⟩ := H3.out m hlt3
                    obtain ⟨c0, c1⟩ := hc.keep hp2.out.bw
                    obtain ⟨WC, HO3, HC3, HW, HZ3⟩ := copyEg wr (egi E m)
                    have HP3 := Lib.hid (hp2.out.below HC3.out)
                    obtain ⟨e1, e2, e3⟩ := HE.out _ (egi_mem hlt3)
                    have HFT := Lib.hid (from_take (v := v) hlt3)
                    have HFL := Lib.hid (fun m u => from_le (E := E) (T := T) HNV.out m u)
                    have HCL := Lib.hid (cnt_le E T E.length (egi E m).2)
                    generalize egi E m = x at *
                    clear hc
                    go_upto_region 24 with fail
                    rw [HW.out]
                    clear c0 c1 HW
                    obtain ⟨c0, c1⟩ := egC HO3.out
                    rw [Nat.zero_add] at c1
                    by_cases hxv : x.1 = v
                    · have b1 : ((x.1 : Int) == (v : Int)) = true := by rw [hxv]; simp
                      obtain ⟨q, hq⟩ : ∃ q, cntE E T E.length x.2 - fromE E v m x.2 = q + 1 := by
                        have a1 := HFL.out (m + 1) x.2
                        have a2 := HFT.out x.2
                        rw [if_pos ⟨hxv, rfl⟩] at a2
                        exact ⟨cntE E T E.length x.2 - fromE E v m x.2 - 1, by omega⟩
                      have r1 : WC.cell? ⟨g1, x.2, none⟩ = some (.int .i64 ((q : Int) + 1)) := by rw [HP3.out.c.cell, rowA_get e2, hq]; rfl
                      have r2 := HP3.out.c.frozen x.2
                      have hql : q ≤ 100000 := by have := HCL.out; omega
                      have w4 : wrap64 (q : Int) = (q : Int) := IntWalk.wrap64_in _ (by omega)
                      have i1 : (x.2 : Int) < n := by omega
                      have i2 : (0 : Int) ≤ x.2 := by omega
                      have HP4 : Hid (DagP w (WC.setCell ⟨g1, x.2, none⟩ (.int .i64 q)) g2 g1 g3 n (T ++ [v]) (fun u => cntE E T E.length u - fromE E v (m + 1) u) (.slice pa (k + 1) pc)) := by
                        exact HP3.out.setC HWG.out HG13.out (by have := HG13.out; have := HG23.out; omega) x.2 q fun u _ => dec_one hxv hq HFT.out u
                      clear hq HFT HFL HCL hxv hql
                      go_wp2_with fail
                      go_roundg (E.length + 1 - (m + 1))
                      case measure => omega
                      case rel => exact ⟨m + 1, by omega, rfl, by go_num, HP4⟩
                    · have b1 : ((x.1 : Int) == (v : Int)) = false := by rw [beq_eq_false_iff_ne]; omega
                      have HP4 : Hid (DagP w WC g2 g1 g3 n (T ++ [v]) (fun u => cntE E T E.length u - fromE E v (m + 1) u) (.slice pa (k + 1) pc)) := by
                        have e : (fun u => cntE E T E.length u - fromE E v (m + 1) u) = fun u => cntE E T E.length u - fromE E v m u := by
                          funext u; rw [HFT.out u, if_neg (fun h => hxv h.1), Nat.add_zero]
                        show DagP ..
                        rw [e]; exact HP3.out
                      clear HFT HFL HCL hxv
                      go_wp2_with fail
                      go_roundg (E.length + 1 - (m + 1))
                      case measure => omega
                      case rel => exact ⟨m + 1, by omega, rfl, by go_num, HP4⟩
                  · obtain rfl : m = E.length := by omega
                    have HP5 : Hid (DagP w wr g2 g1 g3 n (topo n E (k + 1)) (cntE E (topo n E (k + 1)) E.length) (.slice pa (k + 1) pc)) := by
                      show DagP ..
                      rw [HTP.out]
                      have e : (fun u => cntE E T E.length u - fromE E v E.length u) = cntE E (T ++ [v]) E.length := by
                        funext u; rw [cnt_next HNV.out u]; omega
                      rw [← e]; exact hp2.out
                    have HL5 : Hid ((topo n E (k + 1)).length = k + 1) := by show _ = _; rw [HTP.out, List.length_append, hlen.out]; rfl
                    go_wp2_with fail
                    go_roundg (n + 1 - (k + 1))
                    case measure => omega
                    case rel => exact ⟨k + 1, by omega, rfl, ⟨_, _, rfl⟩, HL5, HP5⟩
            · obtain rfl : v = n := by omega
              have HV : Hid ((topo v E v).length ≠ v) := topo_short hlt (by rw [HT.out]; exact stepT_none.2 hop.out)
              go_wp2_with fail
              rw [Exit.noGoto_ret]
              go_ret2
              exact ⟨.slice none 0 0, by rw [if_neg HV.out]; rfl, fun h => absurd h HV.out, hp.out.bw⟩
        · obtain rfl : k = n := by omega
          have HS := Lib.hid hp.out.o.si
          go_wp2_with fail
          rw [Exit.noGoto_ret]
          go_ret2
          exact ⟨.slice oa k oc, by rw [if_pos hlen.out]; rfl, fun _ => HS.out, hp.out.bw⟩
end Go.Proofs.YtfpnjbomlmhlpaaGreat

/- Contracts: reached, Before of dag. -/
namespace Go.Proofs.YtfpnjbomlmhlpaaGreat
open Go.RowKit

def unm (n : Nat) (M : List Nat) : Nat := ((List.range n).filter fun u => !M.contains u).length
theorem unm_le (n : Nat) (M : List Nat) : unm n M ≤ n := by
  unfold unm
  exact Nat.le_trans (List.length_filter_le _ _) (by rw [List.length_range]; exact Nat.le_refl _)
theorem unm_mark {n : Nat} {M : List Nat} {y : Nat} (hy : y < n) (hn : y ∉ M) : unm n (M ++ [y]) + 1 = unm n M := by
  unfold unm
  have e : (List.range n).filter (fun u => !(M ++ [y]).contains u) = ((List.range n).filter fun u => !M.contains u).erase y := by
    rw [List.Nodup.erase_eq_filter (List.nodup_range.filter _), List.filter_filter]
    refine List.filter_congr fun u _ => ?_
    rw [show (M ++ [y]).contains u = (M.contains u || u == y) from by
      rw [Bool.eq_iff_iff, Bool.or_eq_true, List.contains_iff_mem, List.contains_iff_mem, beq_iff_eq]; simp]
    cases M.contains u <;> cases h : (u == y) <;> simp [bne, h]
  have hm : y ∈ (List.range n).filter fun u => !M.contains u := by
    rw [List.mem_filter]
    refine ⟨List.mem_range.2 hy, ?_⟩
    rw [Bool.not_eq_true', ← Bool.not_eq_true, List.contains_iff_mem]; exact hn
  rw [e, List.length_erase_of_mem hm]
  have := List.length_pos_of_mem hm
  omega
/-- the search on the way: those marked, the stack -/
structure Sch (n : Nat) (E : Edg) (r : Nat) (M S : List Nat) : Prop where
  path : ∀ u ∈ M, PathE E r u
  lt : ∀ u ∈ M, u < n
  st : ∀ s ∈ S, s = r ∨ s ∈ M
  slt : ∀ s ∈ S, s < n
/-- u's edges have been followed -/
def DoneU (E : Edg) (M : List Nat) (u : Nat) : Prop := ∀ y, (u, y) ∈ E → y ∈ M
theorem path_snoc {E : Edg} {a u y : Nat} (h : PathE E a u) (he : (u, y) ∈ E) : PathE E a y := by
  induction h with
  | one h => exact .cons h (.one he)
  | cons h _ ih => exact .cons h (ih he)
theorem Sch.mark {n : Nat} {E : Edg} {r : Nat} {M S : List Nat} (h : Sch n E r M S) {v y : Nat} (hv : v = r ∨ v ∈ M) (he : (v, y) ∈ E) (hy : y < n) : Sch n E r (M ++ [y]) (S ++ [y]) := by
  refine ⟨fun u hu => ?_, fun u hu => ?_, fun s hs => ?_, fun s hs => ?_⟩
  · rcases List.mem_append.1 hu with hu | hu
    · exact h.path u hu
    · rw [List.mem_singleton.1 hu]
      rcases hv with rfl | hv
      · exact .one he
      · exact path_snoc (h.path v hv) he
  · rcases List.mem_append.1 hu with hu | hu
    · exact h.lt u hu
    · rw [List.mem_singleton.1 hu]; exact hy
  · rcases List.mem_append.1 hs with hs | hs
    · exact (h.st s hs).imp id fun h => List.mem_append_left _ h
    · exact .inr (List.mem_append_right _ hs)
  · rcases List.mem_append.1 hs with hs | hs
    · exact h.slt s hs
    · rw [List.mem_singleton.1 hs]; exact hy
theorem reach_all {E : Edg} {r : Nat} {M : List Nat} (h : ∀ u, (u = r ∨ u ∈ M) → DoneU E M u) {a u : Nat} (hp : PathE E a u) : (a = r ∨ a ∈ M) → u ∈ M := by
  induction hp with
  | one he => intro ha; exact h _ ha _ he
  | cons he _ ih => intro ha; exact ih (.inr (h _ ha _ he))
theorem pop_own {w : World} {B g cap : Nat} {r : List Int} {y : Int} (h : OwnI w B (.slice (some ⟨g, 0, none⟩) (r.length + 1) cap) (r ++ [y])) : OwnI w B (.slice (some ⟨g, 0, none⟩) r.length cap) r := by
  refine ⟨by simp, .inr ?_⟩
  rcases h.2 with ⟨e, _⟩ | ⟨g', cap', cur, e, hb, hc, h1, h2, h3, h4⟩
  · cases e
  · simp only [Value.slice.injEq, Option.some.injEq, Addr.mk.injEq, and_true] at e
    obtain ⟨rfl, _, rfl⟩ := e
    rw [List.length_append, List.length_singleton] at h1 h4
    refine ⟨g, cap, cur, rfl, hb, hc, by omega, h2, h3, ?_⟩
    have := congrArg (List.take (r.length * 1)) h4
    rw [List.take_take, List.map_append, List.take_append_of_le_length (by simp), Nat.min_eq_left (by omega)] at this
    rw [this]
    exact List.take_of_length_le (by simp)
theorem own_len {w : World} {B g n cap : Nat} {xs : List Int} (h : OwnI w B (.slice (some ⟨g, 0, none⟩) n cap) xs) : n = xs.length ∧ xs.length ≤ cap := by
  obtain ⟨a, c, he, h1, _⟩ := h.si
  simp at he
  exact ⟨he.2.1, by omega⟩
theorem own_cell {w : World} {B g n cap : Nat} {xs : List Int} (h : OwnI w B (.slice (some ⟨g, 0, none⟩) n cap) xs) {k : Nat} (hk : k < xs.length) : w.cell? ⟨g, k, none⟩ = some (.int .i64 xs[k]) := by
  obtain ⟨rfl, _⟩ := own_len h
  have h' : w.ownsRow B 3 1 (.slice (some ⟨g, 0, none⟩) xs.length cap) xs.length (xs.map (Value.int .i64)) := h
  rw [h'.cellAt k (by omega)]; simp [hk]
theorem natI_len (l : List Nat) : (natI l).length = l.length := by unfold natI; rw [List.length_map]
theorem natI_snoc (l : List Nat) (v : Nat) : natI (l ++ [v]) = natI l ++ [(v : Int)] := by unfold natI; rw [List.map_append]; rfl
/-- what the loops work with -/
structure RchP (w w' : World) (B g1 n : Nat) (M : List Nat) (S : List Nat) (o : Value) : Prop where
  t : ObjAt w' g1 (rowA n fun v => .bool (M.contains v)) 4
  o : OwnI w' B o (natI S)
  bw : Below w.heap.size w w'
theorem RchP.below {w w' w'' : World} {B g1 n : Nat} {M S : List Nat} {o : Value} (h : RchP w w' B g1 n M S o) (hb : Below w'.heap.size w' w'') : RchP w w'' B g1 n M S o := ⟨h.t.keep hb, h.o.below hb, ext_trans h.bw hb⟩
set_option maxRecDepth 100000 in
set_option maxHeartbeats 2000000 in
theorem reached_any (n : Nat) (ev : Value) (E : Edg) (r : Nat) (w : World) (h : SEg w ev E) (hE : EdgOK n E) (hn : n ≤ 256) (hl : E.length ≤ 100000) (hr : r < n) : Calls Tryz.prog 101 #[.int .i64 n, ev, .int .i64 r] w fun e w' => ∃ (g : Nat) (M : List Nat), e = .returned (.slice (some ⟨g, 0, none⟩) n n) ∧ ObjAt w' g (rowA n fun v => .bool (M.contains v)) 4 ∧ (∀ u, u ∈ M ↔ PathE E r u) ∧ Below w.heap.size w w' := by
  obtain ⟨a, cap, rfl, h1, h2, h3⟩ := h
  have H3 := Lib.hid h3; have HE := Lib.hid hE; have HR := Lib.hid hr
  clear h3 hE
  have hm : E.length ≤ 9223372036854775807 := by omega
  have mk3 := make_bools n (by omega)
  obtain ⟨W1, hW1⟩ : ∃ W1, w.alloc (.cells (rowA n fun _ => .bool false) 4) = W1 := ⟨_, rfl⟩
  have HT1 : Hid (ObjAt W1 w.heap.size (rowA n fun v => .bool (([] : List Nat).contains v)) 4) := by show ObjAt ..; rw [← hW1]; exact ObjAt.new _ _ _
  have HB1 : Hid (Below w.heap.size w W1) := by show Below ..; rw [← hW1]; exact (Below.refl _ _).alloc (Nat.le_refl _) _
  have HS1 : Hid (W1.heap.size = w.heap.size + 1) := by show _ = _; rw [← hW1]; simp
  have HW1 := Lib.hid hW1
  clear hW1
  obtain ⟨W2, hW2⟩ : ∃ W2, W1.alloc (.cells #[.int .i64 (r : Int)] 3) = W2 := ⟨_, rfl⟩
  have HP0 : Hid (RchP w W2 W1.heap.size w.heap.size n [] [r] (.slice (some ⟨W1.heap.size, 0, none⟩) 1 1)) := by
    show RchP ..
    rw [← hW2]
    refine ⟨HT1.out.alloc _, ?_, HB1.out.alloc HB1.out.size _⟩
    exact ⟨rfl, .inr ⟨W1.heap.size, 1, #[.int .i64 (r : Int)], rfl, Nat.le_refl _, World.alloc_heap_new W1 _, Nat.le_refl _, by unfold maxLen; omega, rfl, rfl⟩⟩
  have HW2 := Lib.hid hW2
  clear hW2
  go_enter Tryz.func101, Tryz.ntmps101
  go_upto_region 2 with fail
  rw [HW1.out]
  clear mk3 HW1
  go_wp2_with fail
  rw [HW2.out]
  clear HW2
  have hg12 : w.heap.size < W1.heap.size := by have := HS1.out; omega
  have HG12 := Lib.hid hg12
  generalize W1.heap.size = g2 at *
  clear hg12 HT1 HB1 HS1 hr
  go_loopg [8] (2 * unm n [] + 1 + 1) (fun g o wr => ∃ (M S : List Nat), g = 2 * unm n M + S.length + 1 ∧ (∃ b c, o = .slice (some ⟨b, 0, none⟩) S.length c) ∧ 2 * unm n M + S.length ≤ 600 ∧ Hid (Sch n E r M S) ∧ Hid (∀ u, (u = r ∨ u ∈ M) → u ∈ S ∨ DoneU E M u) ∧ Hid (RchP w wr g2 w.heap.size n M S o))
  case atStart =>
    refine ⟨[], [r], rfl, ⟨_, _, rfl⟩, (by have := unm_le n []; simp only [List.length_singleton]; omega), ⟨fun u hu => (by cases hu), fun u hu => (by cases hu), fun s hs => .inl (List.mem_singleton.1 hs), fun s hs => (by rw [List.mem_singleton.1 hs]; exact HR.out)⟩, fun u hu => ?_, HP0⟩
    rcases hu with rfl | hu
    · exact .inl (List.mem_singleton.2 rfl)
    · cases hu
  case round =>
    obtain ⟨M, S, rfl, ⟨ob, oc, rfl⟩, hsl, hsc, hdn, hp⟩ := hrel
    by_cases hs0 : S = []
    · subst hs0
      have HF : Hid (∀ u, u ∈ M ↔ PathE E r u) := fun u => ⟨hsc.out.path u, fun h => reach_all (fun u hu => (hdn.out u hu).resolve_left (by simp)) h (.inl rfl)⟩
      go_wp2_with fail
      go_ret
      exact ⟨_, M, rfl, hp.out.t, HF.out, hp.out.bw⟩
    · obtain ⟨S0, v, hS⟩ := (List.eq_nil_or_concat S).resolve_left hs0
      rw [List.concat_eq_append] at hS
      subst hS
      have HNS : Hid ((S0 ++ [v]).length = S0.length + 1) := by show _ = _; rw [List.length_append, List.length_singleton]
      have HVL : Hid (v < n) := hsc.out.slt v (by simp)
      have HVR : Hid (v = r ∨ v ∈ M) := hsc.out.st v (by simp)
      rw [HNS.out] at hsl hp ⊢
      have HOP : Hid (OwnI wr g2 (.slice (some ⟨ob, 0, none⟩) (S0.length + 1) oc) (natI S0 ++ [(v : Int)])) := by have := hp.out.o; rw [natI_snoc] at this; exact this
      have r1 : wr.cell? ⟨ob, S0.length, none⟩ = some (.int .i64 (v : Int)) := by
        rw [own_cell HOP.out (k := S0.length) (by rw [List.length_append, natI_len, List.length_singleton]; omega), List.getElem_append_right (by rw [natI_len]; exact Nat.le_refl _)]
        simp [natI_len]
      have HPO : Hid (OwnI wr g2 (.slice (some ⟨ob, 0, none⟩) S0.length oc) (natI S0)) := by
        have h1 := HOP.out
        rw [← natI_len S0] at h1 ⊢
        exact pop_own h1
      have hoc : S0.length + 1 ≤ oc := by have := (own_len HOP.out).2; rw [List.length_append, natI_len, List.length_singleton] at this; exact this
      have w4 : wrap64 (S0.length : Int) = (S0.length : Int) := IntWalk.wrap64_in _ (by omega)
      have HP1 : Hid (RchP w wr g2 w.heap.size n M S0 (.slice (some ⟨ob, 0, none⟩) S0.length oc)) := ⟨hp.out.t, HPO.out, hp.out.bw⟩
      have HD1 : Hid (∀ u, (u = r ∨ u ∈ M) → u ∈ S0 ∨ DoneU E M u ∨ u = v) := fun u hu => by
        rcases hdn.out u hu with h | h
        · rcases List.mem_append.1 h with h | h
          · exact .inl h
          · exact .inr (.inr (List.mem_singleton.1 h))
        · exact .inr (.inl h)
      have HS1 : Hid (Sch n E r M S0) := ⟨hsc.out.path, hsc.out.lt, fun s hs => hsc.out.st s (List.mem_append_left _ hs), fun s hs => hsc.out.slt s (List.mem_append_left _ hs)⟩
      clear HPO HOP hs0 hdn hsc hp
      go_wp2_with fail
      clear r1 w4
      go_loopg [8, 32] (E.length + 1) (fun g o i w' => ∃ (m : Nat) (M' S' : List Nat), m ≤ E.length ∧ g = E.length + 1 - m ∧ i = .int .i64 m ∧ (∃ b c, o = .slice (some ⟨b, 0, none⟩) S'.length c) ∧ 2 * unm n M' + S'.length ≤ 2 * unm n M + S0.length ∧ Hid (Sch n E r M' S') ∧ Hid (∀ u, (u = r ∨ u ∈ M') → u ∈ S' ∨ DoneU E M' u ∨ u = v) ∧ Hid (∀ e ∈ E.take m, e.1 = v → e.2 ∈ M') ∧ Hid (v = r ∨ v ∈ M') ∧ Hid (RchP w w' g2 w.heap.size n M' S' o))
      case atStart => exact ⟨0, M, S0, Nat.zero_le _, by omega, rfl, ⟨_, _, rfl⟩, Nat.le_refl _, HS1, HD1, fun e he => (by cases he), HVR, HP1⟩
      case round =>
        obtain ⟨m, M', S', hm2, rfl, rfl, ⟨pb, pc, rfl⟩, hms, hsc, hdn, hed, hvr, hp⟩ := hrel
        by_cases hlt : m < E.length
        · obtain ⟨b, off, rfl, hc⟩ := H3.out m hlt
          obtain ⟨c0, c1⟩ := hc.keep hp.out.bw
          obtain ⟨WC, HO3, HC3, HW, HZ3⟩ := copyEg wr (egi E m)
          have HP3 := Lib.hid (hp.out.below HC3.out)
          obtain ⟨e1, e2, e3⟩ := HE.out _ (egi_mem hlt)
          have HEM := Lib.hid (egi_mem hlt)
          have HTK := Lib.hid (take_egi hlt)
          generalize egi E m = x at *
          clear hc
          go_upto_region 9 with fail
          rw [HW.out]
          clear c0 c1 HW
          obtain ⟨c0, c1⟩ := egC HO3.out
          rw [Nat.zero_add] at c1
          have r1 : WC.cell? ⟨w.heap.size, x.2, none⟩ = some (.bool (M'.contains x.2)) := by rw [HP3.out.t.cell]; exact rowA_get e2
          have i1 : (x.2 : Int) < n := by omega
          have i2 : (0 : Int) ≤ x.2 := by omega
          by_cases hxv : x.1 = v
          · have b1 : ((x.1 : Int) == (v : Int)) = true := by rw [hxv]; simp
            cases hmk : M'.contains x.2
            · rw [hmk] at r1
              have HNM : Hid (x.2 ∉ M') := by show ¬ _; rw [← List.contains_iff_mem, hmk]; decide
              have r2 := HP3.out.t.frozen x.2
              obtain ⟨WS, hWS⟩ : ∃ WS, WC.setCell ⟨w.heap.size, x.2, none⟩ (.bool true) = WS := ⟨_, rfl⟩
              have HTS : Hid (ObjAt WS w.heap.size (rowA n fun u => .bool ((M' ++ [x.2]).contains u)) 4) := by
                show ObjAt ..
                rw [← hWS]
                have := HP3.out.t.set x.2 (.bool true)
                rw [rowA_set] at this
                rw [rowA_congr (g := fun j => if j = x.2 then .bool true else .bool (M'.contains j)) fun u hu => by
                  by_cases e : u = x.2
                  · subst e; rw [if_pos rfl, show (M' ++ [x.2]).contains x.2 = true from List.contains_iff_mem.2 (by simp)]
                  · rw [if_neg e, show (M' ++ [x.2]).contains u = M'.contains u by rw [Bool.eq_iff_iff, List.contains_iff_mem, List.contains_iff_mem]; simp [e]]]
                exact this
              have HOS : Hid (OwnI WS g2 (.slice (some ⟨pb, 0, none⟩) S'.length pc) (natI S')) := by show OwnI ..; rw [← hWS]; exact HP3.out.t.rowSet HP3.out.o (by decide) _ _
              have HBS : Hid (Below w.heap.size w WS) := by show Below ..; rw [← hWS]; exact HP3.out.bw.setCell (p := ⟨w.heap.size, x.2, none⟩) (Nat.le_refl _) _
              have HZS : Hid (g2 ≤ WS.heap.size) := by
                show _ ≤ _; rw [← hWS]
                have := (World.ownsRow.lt HP3.out.o pb rfl)
                simp [World.setCell]; omega
              have hul := unm_le n M
              have HLT : Hid ((natI S').length + ([(x.2 : Int)] : List Int).length ≤ 100000000) := by show _ ≤ _; rw [natI_len]; simp only [List.length_singleton]; omega
              have HUM := Lib.hid (unm_mark e2 HNM.out)
              have HS4 : Hid (Sch n E r (M' ++ [x.2]) (S' ++ [x.2])) := hsc.out.mark hvr.out (by rw [← hxv]; exact HEM.out) e2
              have HD4 : Hid (∀ u, (u = r ∨ u ∈ M' ++ [x.2]) → u ∈ S' ++ [x.2] ∨ DoneU E (M' ++ [x.2]) u ∨ u = v) := fun u hu => by
                by_cases e : u = x.2
                · exact .inl (by rw [e]; simp)
                have hu' : u = r ∨ u ∈ M' := hu.imp id fun h => by
                  rcases List.mem_append.1 h with h | h
                  · exact h
                  · exact absurd (List.mem_singleton.1 h) e
                rcases hdn.out u hu' with h | h | h
                · exact .inl (List.mem_append_left _ h)
                · exact .inr (.inl fun y hy => List.mem_append_left _ (h y hy))
                · exact .inr (.inr h)
              have HE4 : Hid (∀ e ∈ E.take (m + 1), e.1 = v → e.2 ∈ M' ++ [x.2]) := fun e he hv => by
                rw [HTK.out] at he
                rcases List.mem_append.1 he with he | he
                · exact List.mem_append_left _ (hed.out e he hv)
                · rw [List.mem_singleton.1 he]; simp
              have HV4 : Hid (v = r ∨ v ∈ M' ++ [x.2]) := hvr.out.imp id fun h => List.mem_append_left _ h
              have HXS : Hid (ObjAt WS wr.heap.size (egA x) 86) := by show ObjAt ..; rw [← hWS]; exact HO3.out.other (Nat.ne_of_gt hp.out.t.lt) _ _
              have HWS := Lib.hid hWS
              clear hWS hmk hxv
              go_upto_region 11 with fail
              rw [HWS.out]
              clear HWS r1 r2 c0 c1
              obtain ⟨c0, c1⟩ := egC HXS.out
              rw [Nat.zero_add] at c1
              go_wp2_with (at_builtin; refine wpList_app_int rfl (.tmp 52) (.tmp 55) rfl g2 (.slice (some ⟨pb, 0, none⟩) S'.length pc) _ (natI S') [(x.2 : Int)] rfl rfl (HOS.out.alloc _) (SI_one _ _ _) HLT.out (by have := HZS.out; simp; omega) ?_)
              intro va wa hoa hga _
              have hwg := HG12.out
              have HOA : Hid (OwnI wa g2 va (natI (S' ++ [x.2]))) := by show OwnI ..; rw [natI_snoc]; exact hoa
              have HP4 : Hid (RchP w wa g2 w.heap.size n (M' ++ [x.2]) (S' ++ [x.2]) va) := by
                refine ⟨(HTS.out.alloc _).grown hga (by show (Value.slice (some ⟨pb, 0, none⟩) S'.length pc).ownBlock ≠ some w.heap.size; exact HTS.out.ne HOS.out (by decide)), HOA.out, (HBS.out.alloc HBS.out.size _).grown hga (by have := HBS.out.size; simp; omega) (fun q hq => ?_)⟩
                have := (World.ownsRow.lt HOS.out q hq).1; omega
              have hform : ∃ b c, va = .slice (some ⟨b, 0, none⟩) (S' ++ [x.2]).length c := by
                rcases HOA.out.2 with ⟨_, h0⟩ | ⟨g, cap, cur, e, _⟩
                · rw [natI_len] at h0; simp at h0
                · rw [natI_len] at e; exact ⟨g, cap, e⟩
              obtain ⟨qb, qc, rfl⟩ := hform
              have HLN : Hid (2 * unm n (M' ++ [x.2]) + (S' ++ [x.2]).length ≤ 2 * unm n M + S0.length) := by
                show _ ≤ _; have := HUM.out; rw [List.length_append, List.length_singleton]; omega
              clear hoa hga HOA HOS HTS HBS HZS HLT c0 c1 hwg
              go_wp2_with fail
              go_roundg (E.length + 1 - (m + 1))
              case measure => omega
              case rel => exact ⟨m + 1, M' ++ [x.2], S' ++ [x.2], by omega, rfl, by go_num, ⟨_, _, rfl⟩, HLN.out, HS4, HD4, HE4, HV4, HP4⟩
            · rw [hmk] at r1
              have HE4 : Hid (∀ e ∈ E.take (m + 1), e.1 = v → e.2 ∈ M') := fun e he hv => by
                rw [HTK.out] at he
                rcases List.mem_append.1 he with he | he
                · exact hed.out e he hv
                · rw [List.mem_singleton.1 he]; exact List.contains_iff_mem.1 hmk
              clear hmk hxv
              go_wp2_with fail
              go_roundg (E.length + 1 - (m + 1))
              case measure => omega
              case rel => exact ⟨m + 1, M', S', by omega, rfl, by go_num, ⟨_, _, rfl⟩, hms, hsc, hdn, HE4, hvr, HP3⟩
          · have b1 : ((x.1 : Int) == (v : Int)) = false := by rw [beq_eq_false_iff_ne]; omega
            have HE4 : Hid (∀ e ∈ E.take (m + 1), e.1 = v → e.2 ∈ M') := fun e he hv => by
              rw [HTK.out] at he
              rcases List.mem_append.1 he with he | he
              · exact hed.out e he hv
              · rw [List.mem_singleton.1 he] at hv; exact absurd hv hxv
            clear hxv
            go_wp2_with fail
            go_roundg (E.length + 1 - (m + 1))
            case measure => omega
            case rel => exact ⟨m + 1, M', S', by omega, rfl, by go_num, ⟨_, _, rfl⟩, hms, hsc, hdn, HE4, hvr, HP3⟩
        · obtain rfl : m = E.length := by omega
          have HD5 : Hid (∀ u, (u = r ∨ u ∈ M') → u ∈ S' ∨ DoneU E M' u) := fun u hu => by
            rcases hdn.out u hu with h | h | h
            · exact .inl h
            · exact .inr h
            · subst h
              exact .inr fun y hy => hed.out (u, y) (by rw [List.take_length]; exact hy) rfl
          go_wp2_with fail
          go_roundg (2 * unm n M' + S'.length + 1)
          case measure => have := HNS.out; omega
          case rel => exact ⟨M', S', rfl, ⟨_, _, rfl⟩, by omega, hsc, HD5, hp⟩
set_option maxRecDepth 100000 in
theorem Before_any (n : Nat) (ev : Value) (E : Edg) (a b : Nat) (w : World) (h : SEg w ev E) (hE : EdgOK n E) (hn : n ≤ 256) (hl : E.length ≤ 100000) (ht : (topo n E n).length = n) (ha : a < n) (hb : b < n) : Calls Tryz.prog 67 #[.int .i64 n, ev, .int .i64 a, .int .i64 b] w fun e w' => ∃ bv, e = .returned (.bool bv) ∧ (bv = true ↔ PathE E a b) ∧ Below w.heap.size w w' := by
  have HO := Lib.hid (Order_any n ev E w h hE hn hl)
  have HR := Lib.hid (fun w' (hb : Below w.heap.size w w') => reached_any n ev E a w' (h.keep hb) hE hn hl ha)
  have HT := Lib.hid ht
  obtain ⟨ea, ec, rfl, _⟩ := h
  have d1 : ¬ ((a : Int) < 0) := by omega
  have d2 : ¬ ((n : Int) ≤ a) := by omega
  have d3 : ¬ ((b : Int) < 0) := by omega
  have d4 : ¬ ((n : Int) ≤ b) := by omega
  have i1 : (b : Int) < n := by omega
  have i2 : (0 : Int) ≤ b := by omega
  clear ht hE
  go_enter Tryz.func67, Tryz.ntmps67
  go_wp2_with fail
  refine HO.out.mono ?_
  rintro e w1 ⟨v, rfl, _, h1'⟩
  rw [if_pos HT.out]
  have HB1 := Lib.hid h1'
  clear h1' HO
  go_wp2_with fail
  refine (HR.out w1 HB1.out).mono ?_
  rintro e w2 ⟨g, M, rfl, hm, hp, h2'⟩
  have HB2 := Lib.hid (ext_trans HB1.out h2')
  have HP := Lib.hid hp
  have r1 : w2.cell? ⟨g, b, none⟩ = some (.bool (M.contains b)) := by rw [hm.cell]; exact rowA_get hb
  clear h2' HR hp hm
  go_wp2_with fail
  go_ret
  exact ⟨_, rfl, by rw [decide_eq_true_eq]; exact HP.out b, HB2.out⟩
end Go.Proofs.YtfpnjbomlmhlpaaGreat

/- Contract: numbers of need. -/
namespace Go.Proofs.YtfpnjbomlmhlpaaGreat
open Go.RowKit

theorem cell_turned {w w' : World} {b : Nat} (ht : w.mapTurned w' b) {p : Addr} {v : Value} (h : w.cell? p = some v) : w'.cell? p = some v := by
  obtain ⟨es, c, _, _, e, _⟩ := id ht
  have hne : p.block ≠ b := by
    intro e2
    unfold World.cell? at h
    rw [e2, e] at h
    simp at h
  have := ht.grown.block p.block (World.block_lt_of_cell? w _ h) (fun e3 => hne (Option.some.inj e3))
  unfold World.cell? at h ⊢
  rw [this]; exact h
theorem obj_turned {w w' : World} {b : Nat} (ht : w.mapTurned w' b) {q : Nat} {xs : Array Value} {e : TypeId} (h : ObjAt w q xs e) : ObjAt w' q xs e := by
  refine h.grown ht.grown fun e2 => ?_
  obtain ⟨es, c, _, _, e3, _⟩ := id ht
  cases e2
  rw [show w.heap[b]? = _ from h] at e3
  cases e3
theorem zero_ints (w : World) : (zeroValue 65).run Tryz.prog w = .ok (.slice none 0 0) w := by kernel_rfl
/-- the numbers of the first k blocks -/
structure NumM (w : World) (g k : Nat) (bl : List (List UInt8)) (E : KV) : Prop where
  m : VM 9 w g k E
  keys : E.map (·.1) = bl.take k
  vals : ∀ i (h : i < E.length), SI w E[i].2 [(i : Int)]
theorem NumM.keep {w w' : World} {g k : Nat} {bl : List (List UInt8)} {E : KV} (h : NumM w g k bl E) (hb : Below w.heap.size w w') : NumM w' g k bl E := ⟨h.m.keep hb, h.keys, fun i hi => (h.vals i hi).keep hb⟩
/-- the numbers of a block -/
def idxL (bl : List (List UInt8)) (s : List UInt8) : List Nat := if s ∈ bl then [atB bl s] else []
theorem getE_at {E : KV} (hd : (E.map (·.1)).Nodup) {i : Nat} (hi : i < E.length) (z : Value) : getE E E[i].1 z = E[i].2 := by
  unfold getE
  have : E.find? (fun p => p.1 == E[i].1) = some E[i] := by
    rw [List.find?_eq_some_iff_getElem]
    refine ⟨by simp, i, hi, rfl, fun j hj => ?_⟩
    rw [List.nodup_iff_pairwise_ne, List.pairwise_map] at hd
    have := List.pairwise_iff_getElem.1 hd j i (by omega) hi hj
    simp [this]
  rw [this]; rfl
/-- what a look returns -/
theorem NumM.si {w : World} {g : Nat} {bl : List (List UInt8)} {E : KV} (h : NumM w g bl.length bl E) (hd : bl.Nodup) (s : List UInt8) : SI w (getE E s (.slice none 0 0)) (natI (idxL bl s)) := by
  have hk := h.keys
  rw [List.take_length] at hk
  have hl : E.length = bl.length := by have := congrArg List.length hk; simpa using this
  unfold idxL
  by_cases hm : s ∈ bl
  · rw [if_pos hm]
    obtain ⟨h1, h2⟩ := atB_lt hm
    have e1 : E[atB bl s].1 = s := by
      have h3 : (E.map (·.1))[atB bl s]'(by rw [List.length_map]; omega) = E[atB bl s].1 := by simp
      have h4 : bl[atB bl s] = s := by
        unfold bkI at h2
        rw [List.getD_eq_getElem?_getD, List.getElem?_eq_getElem h1] at h2
        exact h2
      rw [← h3]; simp only [hk]; exact h4
    have e2 := getE_at (by rw [hk]; exact hd) (show atB bl s < E.length by omega) (.slice none 0 0)
    rw [e1] at e2
    rw [e2]
    exact h.vals (atB bl s) (by omega)
  · rw [if_neg hm]
    have : getE E s (.slice none 0 0) = .slice none 0 0 := by
      unfold getE
      rw [List.find?_eq_none.2 (fun p hp => by
        intro e
        apply hm
        rw [← hk, ← eq_of_beq e]
        exact List.mem_map_of_mem hp)]
      rfl
    rw [this]
    exact SI_nil _
theorem NumM.look {w : World} {g : Nat} {bl : List (List UInt8)} {E : KV} (h : NumM w g bl.length bl E) {s : List UInt8} (hs : s.length ≤ maxLen) : (Instr.lookup 138 (.map (some g)) (.string (bs s)) false).run Tryz.prog w = .ok (getE E s (.slice none 0 0)) w := h.m.look1 keyK Tryz.underlying138 (zero_ints w) (key_of hs)
/-- the form of what it returns, in every world -/
theorem NumM.form {w : World} {g : Nat} {bl : List (List UInt8)} {E : KV} (h : NumM w g bl.length bl E) (hd : bl.Nodup) (s : List UInt8) : ∃ a c, getE E s (.slice none 0 0) = .slice a (idxL bl s).length c ∧ ∀ w', NumM w' g bl.length bl E → ∀ i (hi : i < (idxL bl s).length), ∃ b off, a = some ⟨b, off, none⟩ ∧ w'.cell? ⟨b, off + i, none⟩ = some (.int .i64 ((idxL bl s)[i] : Nat)) := by
  obtain ⟨a, c, e, _⟩ := h.si hd s
  rw [natI_len] at e
  refine ⟨a, c, e, fun w' h' i hi => ?_⟩
  obtain ⟨a', c', e', _, _, h3⟩ := h'.si hd s
  rw [e] at e'
  simp only [Value.slice.injEq] at e'
  obtain ⟨rfl, _, _⟩ := e'
  obtain ⟨b, off, ha, hc⟩ := h3 i (by rw [natI_len]; exact hi)
  refine ⟨b, off, ha, ?_⟩
  have hg : gi (natI (idxL bl s)) i = (((idxL bl s)[i] : Nat) : Int) := by unfold natI gi; simp [hi]
  rw [hc]; dsimp only; rw [hg]
set_option maxRecDepth 100000 in
set_option maxHeartbeats 1000000 in
theorem numbers_any (bv : Value) (bl : List (List UInt8)) (w : World) (h : SZ w bv (bl.map bs)) (hd : bl.Nodup) (hl : bl.length ≤ 256) (hs : ∀ s ∈ bl, s.length ≤ maxLen) : Calls Tryz.prog 70 #[bv] w fun e w' => ∃ g E, e = .returned (.map (some g)) ∧ NumM w' g bl.length bl E ∧ Below w.heap.size w w' := by
  obtain ⟨a, cap, rfl, h1, h2, h3⟩ := h
  rw [List.length_map] at h1 h3
  have H3 := Lib.hid h3; have HS := Lib.hid hs; have HD := Lib.hid hd
  clear h3 hs hd
  rw [List.length_map]
  have hm : bl.length ≤ 9223372036854775807 := by omega
  have hmm := @run_makeMap Tryz.prog
  obtain ⟨W1, hW1⟩ : ∃ W1, w.alloc (.map #[] 0) = W1 := ⟨_, rfl⟩
  have HN0 : Hid (NumM W1 w.heap.size 0 bl []) := by show NumM ..; rw [← hW1]; exact ⟨VM.made w, rfl, fun i hi => by simp at hi⟩
  have HB1 : Hid (Below w.heap.size w W1) := by show Below ..; rw [← hW1]; exact (Below.refl _ _).alloc (Nat.le_refl _) _
  have HW1 := Lib.hid hW1
  clear hW1
  go_enter Tryz.func70, Tryz.ntmps70
  go_upto_region 2 with fail
  rw [HW1.out]
  clear HW1 hmm
  go_wp2_with fail
  go_loopw [9] (fun i wr => ∃ k : Nat, k ≤ bl.length ∧ i = .int .i64 k ∧ Hid (Below w.heap.size w wr) ∧ Hid (∃ E, NumM wr w.heap.size k bl E)) (fun i _ => bl.length - (intOf i).toNat)
  case atStart => exact ⟨0, Nat.zero_le _, rfl, HB1, Lib.hid ⟨[], HN0.out⟩⟩
  case round =>
    obtain ⟨k, hk, rfl, hb, hn⟩ := hrel
    obtain ⟨E, hn⟩ := hn.out
    have HN := Lib.hid hn
    clear hn
    by_cases hlt : k < bl.length
    · obtain ⟨b, off, rfl, hc⟩ := H3.out k hlt
      have hcc := cell_keep hb.out hc
      rw [zi_bs hlt] at hcc
      have hsz := HS.out _ (List.getElem_mem hlt)
      have HKE : Hid (E.length = k) := by have := congrArg List.length HN.out.keys; rw [List.length_map, List.length_take, Nat.min_eq_left hk] at this; exact this
      have hnew : hasE E bl[k] = false := by
        rw [not_has, HN.out.keys]
        intro hm
        have hd := HD.out
        rw [← List.take_append_drop k bl] at hd
        refine (List.nodup_append.1 hd).2.2 _ hm bl[k] ?_ rfl
        rw [List.drop_eq_getElem_cons hlt]; exact List.mem_cons_self ..
      have hlook := HN.out.m.look1 keyK Tryz.underlying138 (zero_ints wr) (key_of hsz)
      have e0 : getE E bl[k] (.slice none 0 0) = .slice none 0 0 := by
        unfold getE
        rw [List.find?_eq_none.2 (fun p hp => by
          intro e; exact not_has.1 hnew (List.mem_map.2 ⟨p, hp, eq_of_beq e⟩))]
        rfl
      rw [e0] at hlook
      have HNW := Lib.hid hnew
      clear hc hnew e0
      go_wp2_with (at_builtin; refine wpList_app_int rfl (.tmp 18) (.tmp 20) rfl wr.heap.size (.slice none 0 0) _ [] [(k : Int)] rfl rfl (OwnI_nil _ _) (SI_one _ _ _) (by simp) (by simp) ?_)
      intro va wa hoa hga _
      have HBA : Hid (Below wr.heap.size wr wa) := ((Below.refl _ _).alloc (Nat.le_refl _) _).grown hga (by simp) (fun q hq => by cases hq)
      have HVA : Hid (SI wa va [(k : Int)]) := hoa.si
      obtain ⟨va1, vc1, hva, _⟩ := hoa.si
      have hva' : va = .slice va1 1 vc1 := hva
      clear hva
      subst hva'
      obtain ⟨w8, hst, hm8, htn⟩ := (HN.out.m.keep HBA.out).store keyK Tryz.underlying138 (by unfold maxLen; omega) (key_of hsz) HNW.out (.slice va1 1 vc1)
      have HB8 := Lib.hid (turned_below (ext_trans hb.out HBA.out) htn (Nat.le_refl _))
      have HN8 : Hid (∃ E, NumM w8 w.heap.size (k + 1) bl E) := by
        refine Lib.hid ⟨_, hm8, ?_, fun i hi => ?_⟩
        · rw [List.map_append, HN.out.keys, List.take_succ_eq_append_getElem hlt]; rfl
        · have key : ∀ v xs, SI wa v xs → SI w8 v xs := fun v xs h => by
            obtain ⟨a, c, e, g1, g2, g3⟩ := h
            exact ⟨a, c, e, g1, g2, fun i hi => by
              obtain ⟨b, off, ha, hc⟩ := g3 i hi
              exact ⟨b, off, ha, cell_turned htn hc⟩⟩
          by_cases hik : i < E.length
          · rw [List.getElem_append_left hik]
            exact key _ _ ((HN.out.vals i hik).keep HBA.out)
          · obtain rfl : i = E.length := by simp at hi; omega
            rw [List.getElem_append_right (Nat.le_refl _)]
            simp only [Nat.sub_self, List.getElem_cons_zero]
            rw [HKE.out]
            exact key _ _ HVA.out
      clear hoa hga hm8 htn hlook
      go_wp2_with fail
      go_roundw
      case rel => exact ⟨k + 1, by omega, by go_num, HB8, HN8⟩
      case measure => simp [intOf]; omega
    · obtain rfl : k = bl.length := by omega
      go_wp2_with fail
      go_ret
      exact ⟨_, E, rfl, HN.out, hb.out⟩
end Go.Proofs.YtfpnjbomlmhlpaaGreat

/- A region that draws its order and whose operations have values known ahead: each operation is looked at once. -/
namespace Go.Proofs.YtfpnjbomlmhlpaaGreat
open Go.RowKit

/-- What has come up has its value; below the world at the start nothing has changed. -/
structure IV (S : List Nat) (d : Nat → Nat) (V : Nat → Value) (W : World) (a0 : Act) (L : Nat → Bool) (a : Act) (w : World) : Prop where
  sm : Sm S a0 a
  bw : Below W.heap.size W w
  val : ∀ i, L i = true → a.eval (.tmp (d i)) = V i
theorem IV.start {S : List Nat} {d : Nat → Nat} {V : Nat → Value} {W : World} {a0 : Act} : IV S d V W a0 (fun _ => false) a0 W.drew :=
  ⟨Sm.refl _ _, (Below.refl _ _).drew, fun _ h => by cases h⟩
theorem IV.next {S : List Nat} {d : Nat → Nat} {V : Nat → Value} {W : World} {a0 : Act} {L : Nat → Bool} {a : Act} {w w' : World} (h : IV S d V W a0 L a w) (i : Nat) (hS : d i ∈ S) (hz : d i < a0.tmps.size) (hd : ∀ j, d j = d i → j = i)
    (hb : Below W.heap.size W w') : IV S d V W a0 (updL L i) (a.put (some (d i)) (V i)) w' := by
  refine ⟨h.sm.put hS _, hb, fun j hj => ?_⟩
  by_cases e : j = i
  · subst e; exact eval_put_same (by rw [h.sm.1]; exact hz) _
  · rw [eval_put_other (fun e2 => e (hd j e2))]
    rw [updL_other e] at hj
    exact h.val j hj
theorem wp_name {P : Program} {c : Code} {Q : Exit → Act → World → Prop} {a : Act} {w : World} (h : ∀ a0 : Act, a0 = a → Code.wp P c Q a0 w) : Code.wp P c Q a w := h a rfl
theorem vl_move {o : Oper} {a : Act} {w : World} {K : Act → World → Prop} {Q : Exit → Act → World → Prop} (x : Operand) (ho : o.op = .move x) (v : Value) (hx : a.eval x = v) (h : K (a.put o.dst v) w) : o.wp Tryz.prog a w K Q := by
  subst hx
  unfold Oper.wp execOp
  simp only [ho]
  exact h
theorem vl_assign {o : Oper} {a : Act} {w : World} {K : Act → World → Prop} {Q : Exit → Act → World → Prop} (x : Operand) (ho : o.op = .assign x) (v : Value) (hx : a.eval x = v) (h : K (a.put o.dst v) w) : o.wp Tryz.prog a w K Q := by
  subst hx
  unfold Oper.wp execOp
  simp only [ho]
  exact h
theorem vl_load {o : Oper} {a : Act} {w : World} {K : Act → World → Prop} {Q : Exit → Act → World → Prop} (ty : TypeId) (hagg : ∀ w, (isAgg ty).run Tryz.prog w = .ok false w) (x : Operand) (ho : o.op = .load ty x)
    (p : Addr) (v : Value) (hx : a.eval x = .pointer (some p)) (hc : w.cell? p = some v) (h : K (a.put o.dst v) w) : o.wp Tryz.prog a w K Q := by
  unfold Oper.wp execOp
  simp only [ho, hx, Instr.loadAt, Instr.sureAddr, Sem.run_bind, Sem.run_pure, Result.andThen_ok, loadVar, hagg]
  go_simp
  exact h
theorem vl_sadd {o : Oper} {a : Act} {w : World} {K : Act → World → Prop} {Q : Exit → Act → World → Prop} (x y : Operand) (ho : o.op = .binOp .add 9 x y 9) (s t : ByteArray) (hx : a.eval x = .string s) (hy : a.eval y = .string t)
    (hs : s.size ≤ 1000000) (ht : t.size ≤ 1000000) (h : K (a.put o.dst (.string (s ++ t))) w) : o.wp Tryz.prog a w K Q := by
  unfold Oper.wp execOp
  simp only [ho, hx, hy]
  go_simp
  rw [if_neg (by omega)]
  exact h
theorem agg_string (w : World) : (isAgg 9).run Tryz.prog w = .ok false w := by
  unfold isAgg; rw [Sem.run_bind, run_underlying Tryz.underlying9 w]; rfl
theorem agg_int0 (w : World) : (isAgg 3).run Tryz.prog w = .ok false w := by
  unfold isAgg; rw [Sem.run_bind, run_underlying Tryz.underlying3 w]; rfl
end Go.Proofs.YtfpnjbomlmhlpaaGreat
