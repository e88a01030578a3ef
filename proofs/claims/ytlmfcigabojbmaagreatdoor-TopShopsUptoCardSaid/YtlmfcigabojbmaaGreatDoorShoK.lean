/- Contract: Plan of shop's reference. -/
import Derived.Test.YtlmfcigabojbmaaGreatDoorShoMem
import Derived.Test.YtlmfcigabojbmaaGreatDoorShoF
import Derived.Test.YtlmfcigabojbmaaGreatDoorShoO
import Derived.Test.YtlmfcigabojbmaaGreatDoorIdF
import Derived.Laws.MakeOwn
set_option linter.unusedSimpArgs false
set_option linter.unusedVariables false

/- The types of shops, as the walk of regions wants them; find, ready, check of shop's reference. -/
namespace Go.Proofs.YtlmfcigabojbmaaGreatDoor
open Go.RowKit

def skFo : TypeId → Nat → Option Nat
  | 44, 0 => some 0
  | 44, 1 => some 1
  | 44, 2 => some 2
  | 44, 3 => some 3
  | 44, 4 => some 4
  | t, f => dkFo t f
theorem skFo_ok (t f d : Nat) (h : skFo t f = some d) (b off : Nat) (w : World) : (Instr.fieldAt t (.pointer (some ⟨b, off, none⟩)) f).run Tryz.prog w = .ok (.pointer (some ⟨b, off + d, none⟩)) w := by
  unfold skFo at h
  split at h
  iterate 5 (cases h; go_simp)
  exact dkFo_ok _ _ _ h _ _ _
def skSc : TypeId → Bool
  | 30 => true
  | t => dkSc t
theorem skSc_ok (t : TypeId) (h : skSc t = true) (p : Addr) (v : Value) (w : World) (hc : w.cell? p = some v) : (Instr.loadAt t (.pointer (some p))).run Tryz.prog w = .ok v w := by
  unfold skSc at h
  split at h
  · exact load_of (agg_of Tryz.underlying30 rfl) p v w hc
  · exact dkSc_ok t h p v w hc
def skAg : TypeId → Option Nat
  | 44 => some 5
  | t => dkAg t
theorem skAg_ok (t : TypeId) (m : Nat) (h : skAg t = some m) (b off : Nat) (cs : List Value) (w : World) (hl : cs.length = m) (hr : w.rangeAt b off cs) : (Instr.loadAt t (.pointer (some ⟨b, off, none⟩))).run Tryz.prog w = .ok (.agg cs.toArray) w := by
  unfold skAg at h
  split at h
  · exact run_loadAt_mid w b off _ cs _ hr Tryz.underlying44 rfl (by rw [hl]; cases h; kernel_rfl)
  · exact dkAg_ok t m h b off cs w hl hr
def skEs : TypeId → Option Nat
  | 22 => some 5
  | 30 => some 1
  | 54 => some 1
  | t => dkEs t
theorem skEs_ok (t : TypeId) (q : Nat) (h : skEs t = some q) (b off l c j : Nat) (w : World) (hj : j < l) : (Instr.indexAt t (.slice (some ⟨b, off, none⟩) l c) (.int .i64 j)).run Tryz.prog w = .ok (.pointer (some ⟨b, off + j * q, none⟩)) w := by
  have i1 : (j : Int) < l := by omega
  unfold skEs at h
  split at h
  iterate 3 (cases h; go_simp)
  exact dkEs_ok t q h b off l c j w hj
def skLn : TypeId → Bool
  | 22 => true
  | 30 => true
  | 54 => true
  | t => dkLn t
theorem skLn_ok (t : TypeId) (h : skLn t = true) (a : Option Addr) (n c : Nat) (ty : TypeId) (w : World) : (Builtin.len_ #[t] ty #[.slice a n c]).run Tryz.prog w = .ok (.int .i64 n) w := by
  unfold skLn at h
  split at h
  iterate 3 go_simp
  exact dkLn_ok t h a n c ty w
def skEn : FuncId → Bool
  | 17 => true
  | 15 => true
  | 19 => true
  | 18 => true
  | 51 => true
  | 11 => true
  | f => dkEn f
theorem skEn_ok (f : FuncId) (h : skEn f = true) (args : Array Value) (w : World) : (callFunc f args).run Tryz.prog w = .ok (.enter f args) w := by
  unfold skEn at h
  split at h
  · exact enters_of Tryz.func17 (by kernel_rfl) rfl args w
  · exact enters_of Tryz.func15 (by kernel_rfl) rfl args w
  · exact enters_of Tryz.func19 (by kernel_rfl) rfl args w
  · exact enters_of Tryz.func18 (by kernel_rfl) rfl args w
  · exact enters_of Tryz.func51 (by kernel_rfl) rfl args w
  · exact enters_of Tryz.func11 (by kernel_rfl) rfl args w
  · exact dkEn_ok f h args w
def skT : QTab := ⟨skFo, skSc, skAg, skEs, skLn, skEn, dkLn⟩
theorem skT_ok : skT.Ok := ⟨skFo_ok, skSc_ok, skAg_ok, skEs_ok, skLn_ok, skEn_ok, dkSl_ok⟩
def wkO (b off : Nat) (m : MW) : Ob := ⟨b, off, wkCells m⟩
def wkA (m : MW) : Array Value := #[.string (bs m.w.id), .int .i64 m.w.hours, .int .i64 m.w.len, .int .i64 m.w.wid, m.av]
theorem wAt_range {w : World} {b off : Nat} {x : MW} (h : WkAt w b off x) : w.rangeAt b off (wkCells x) := fun j v hv => by
  match j with
  | 0 => cases hv; exact h.c0
  | 1 => cases hv; exact h.c1
  | 2 => cases hv; exact h.c2
  | 3 => cases hv; exact h.c3
  | 4 => cases hv; exact h.c4
  | j + 5 => cases hv
theorem wkC {w : World} {b : Nat} {x : MW} {e : TypeId} (h : ObjAt w b (wkA x) e) : WkAt w b 0 x := ⟨h.cell 0, h.cell 1, h.cell 2, h.cell 3, h.cell 4⟩
theorem copyW (w : World) (x : MW) {a : Option Addr} {n c : Nat} (hav : x.av = .slice a n c) : ∃ W1, Hid (ObjAt W1 w.heap.size (wkA x) 44) ∧ Hid (Below w.heap.size w W1) ∧ Hid (w.alloc (.cells #[.string (bs x.w.id), .int .i64 x.w.hours, .int .i64 x.w.len, .int .i64 x.w.wid, .slice a n c] 44) = W1) ∧ Hid (w.heap.size < W1.heap.size) :=
  ⟨w.alloc (.cells (wkA x) 44), ObjAt.new _ _ _, (Below.refl _ _).alloc (Nat.le_refl _) _, by show _ = _; unfold wkA; rw [hav], by show _ < _; simp⟩
theorem range_wk {w : World} {b : Nat} {x : MW} {e : TypeId} (h : ObjAt w b (wkA x) e) : w.rangeAt b 0 (wkCells x) := wAt_range (wkC h)
theorem wri_ml {l : List MW} {k : Nat} (h : k < l.length) : wri (wl l) k = (mri l k).w := by rw [wri_lt (by rw [wl_len]; exact h), mri_lt h]; simp [wl]
/-- the form of a slice of strings -/
theorem sz_form {w : World} {v : Value} {ss : List ByteArray} (h : SZ w v ss) : ∃ a cap, v = .slice a ss.length cap ∧ ss.length ≤ cap ∧ cap ≤ maxLen ∧ ∀ i, i < ss.length → ∃ b off, a = some ⟨b, off, none⟩ ∧ w.cell? ⟨b, off + i, none⟩ = some (.string (zi ss i)) := h
theorem Aft.form {w : World} {l : List MW} (h : Aft w l) {k : Nat} (hk : k < l.length) : ∃ a c, (mri l k).av = .slice a (mri l k).w.after.length c ∧ (mri l k).w.after.length ≤ c ∧ c ≤ maxLen ∧ ∀ i (hi : i < (mri l k).w.after.length), ∃ b off, a = some ⟨b, off, none⟩ ∧ w.cell? ⟨b, off + i, none⟩ = some (.string (bs (mri l k).w.after[i])) := by
  obtain ⟨a, c, e, h1, h2, h3⟩ := sz_form (h _ (mri_mem hk))
  rw [List.length_map] at e h1 h3
  refine ⟨a, c, e, h1, h2, fun i hi => ?_⟩
  obtain ⟨b, off, e2, h4⟩ := h3 i hi
  rw [zi_bs hi] at h4
  exact ⟨b, off, e2, h4⟩
set_option maxRecDepth 100000 in
theorem r42find_any (v : Value) (l : List MW) (id : List UInt8) (w : World) (h : SWk w v l) : Calls Tryz.prog 17 #[v, .string (bs id)] w (Ret w (.int .i64 (findG (fun m => m.w.id == id) l))) := by
  obtain ⟨a, cap, rfl, h1, h2, h3⟩ := h
  have H3 := Lib.hid h3; clear h3
  have hm : l.length ≤ 9223372036854775807 := by unfold maxLen at h2; omega
  go_enter Tryz.func17, Tryz.ntmps17
  go_wp2_with fail
  go_loopw [5] (fun i wr => ∃ k : Nat, k ≤ l.length ∧ i = .int .i64 k ∧ Hid (Below w.heap.size w wr) ∧ Hid (∀ j, j < k → ((fun m : MW => m.w.id == id) (mri l j)) = false)) (fun i _ => l.length - (intOf i).toNat)
  case atStart => exact ⟨0, Nat.zero_le _, rfl, Lib.hid (Below.refl _ _), Lib.hid fun j hj => by omega⟩
  case round =>
    obtain ⟨k, hk, rfl, hb, hj⟩ := hrel
    by_cases hlt : k < l.length
    · obtain ⟨b, off, rfl, hc⟩ := H3.out k hlt
      have c0 := (hc.keep hb.out).c0
      have HE := Lib.hid (bs_eq (mri l k).w.id id)
      clear hc
      obtain ⟨ex, hex⟩ : ∃ ex, ((bs (mri l k).w.id).toList == (bs id).toList) = ex := ⟨_, rfl⟩
      have HX := Lib.hid hex
      cases ex
      · have HJ := Lib.hid (upto (q := fun j => ((fun m : MW => m.w.id == id) (mri l j)) = false) hj.out (HE.out.symm.trans hex))
        go_wp2_with fail
        go_roundw
        case rel => exact ⟨k + 1, by omega, by go_num, hb, HJ⟩
        case measure => simp [intOf]; omega
      · have HV := Lib.hid (findG_hit (fun m : MW => m.w.id == id) l k hlt hj.out (HE.out.symm.trans hex))
        go_wp2_with fail
        go_ret
        exact ⟨ret_int HV.out.symm, hb.out⟩
    · have HV := Lib.hid (findG_miss (fun m : MW => m.w.id == id) l (fun j h => hj.out j (by omega)))
      go_wp2_with fail
      go_ret
      exact ⟨ret_int HV.out.symm, hb.out⟩
/-- whether those of a list are among others -/
def readyB (A D : List (List UInt8)) : Bool := A.all fun a => D.contains a
theorem contains_take {D : List (List UInt8)} {k : Nat} (h : k < D.length) (a : List UInt8) : (D.take (k + 1)).contains a = ((D.take k).contains a || (D[k] == a)) := by
  rw [List.take_succ_eq_append_getElem h, List.contains_append]
  congr 1
  rw [List.contains_cons, List.contains_nil, Bool.or_false]
  exact Bool.beq_comm
set_option maxRecDepth 100000 in
set_option maxHeartbeats 1000000 in
theorem ready_any (av dv : Value) (A D : List (List UInt8)) (w : World) (ha : SZ w av (A.map bs)) (hd : SZ w dv (D.map bs)) : Calls Tryz.prog 15 #[av, dv] w (Ret w (.bool (readyB A D))) := by
  obtain ⟨aa, ac, rfl, a1, a2, a3⟩ := sz_form ha
  obtain ⟨da, dc, rfl, d1, d2, d3⟩ := sz_form hd
  have A3 := Lib.hid a3; have D3 := Lib.hid d3
  clear ha hd a3 d3
  rw [List.length_map] at a1 d1
  rw [List.length_map] at A3 D3
  rw [List.length_map, List.length_map]
  have hm1 : A.length ≤ 9223372036854775807 := by unfold maxLen at a2; omega
  have hm2 : D.length ≤ 9223372036854775807 := by unfold maxLen at d2; omega
  go_enter Tryz.func15, Tryz.ntmps15
  go_wp2_with fail
  go_loopw [5] (fun i wr => ∃ k : Nat, k ≤ A.length ∧ i = .int .i64 k ∧ Hid (Below w.heap.size w wr) ∧ Hid (∀ j, j < k → D.contains (A.getD j default) = true)) (fun i _ => A.length - (intOf i).toNat)
  case atStart => exact ⟨0, Nat.zero_le _, rfl, Lib.hid (Below.refl _ _), Lib.hid fun j hj => by omega⟩
  case round =>
    obtain ⟨k, hk, rfl, hb, hj⟩ := hrel
    by_cases hlt : k < A.length
    · obtain ⟨ab, ao, rfl, hc⟩ := A3.out k hlt
      have HCA := Lib.hid hc
      rw [zi_bs hlt] at HCA
      clear hc
      go_wp2_with fail
      go_loopw [6, 7] (fun t i wr => ∃ m : Nat, m ≤ D.length ∧ i = .int .i64 m ∧ t = .bool ((D.take m).contains A[k]) ∧ Hid (Below w.heap.size w wr)) (fun _ i _ => D.length - (intOf i).toNat)
      case atStart => exact ⟨0, Nat.zero_le _, rfl, rfl, hb⟩
      case round =>
        obtain ⟨m, hm, rfl, rfl, hb2⟩ := hrel
        by_cases hlt2 : m < D.length
        · obtain ⟨db, do_, rfl, hc⟩ := D3.out m hlt2
          have HCD := Lib.hid hc
          rw [zi_bs hlt2] at HCD
          clear hc
          have HT := Lib.hid (contains_take hlt2 A[k])
          obtain ⟨pre, hpre⟩ : ∃ pre, (D.take m).contains A[k] = pre := ⟨_, rfl⟩
          rw [hpre] at HT ⊢
          clear hpre
          go_upto_region 8 with fail
          refine wp_region_ev skT skT_ok [⟨db, do_ + m, [.string (bs D[m])]⟩, ⟨ab, ao + k, [.string (bs A[k])]⟩] (Below wr.heap.size wr) [] [(24, .ix m 0), (28, .ix k 1)] [(6, .bool (pre || (D[m] == A[k])))] (by kernel_rfl) mixed (by kernel_rfl) ((Below.refl _ _).drew) (obs2 (fun v hv => rangeKeep (intR (cell_keep hb2.out HCD.out)) hv) (fun v hv => rangeKeep (intR (cell_keep hb2.out HCA.out)) hv)) trivial ?_
          conv => whnf
          refine And.intro (under_of ⟨rfl, hlt2, rfl, by show do_ + m = do_ + m * 1; omega⟩) ?_
          conv => whnf
          refine And.intro (under_of ⟨rfl, hlt, rfl, by show ao + k = ao + k * 1; omega⟩) ?_
          conv => whnf
          intro f1
          conv => whnf
          refine And.intro ?_ ?_
          · refine congrArg Value.bool ?_
            rw [bs_eq]
          conv => whnf
          intro w5 h5
          have HB5 := Lib.hid (ext_trans hb2.out h5)
          clear h5
          go_wp2_with fail
          go_roundw
          case rel => exact ⟨m + 1, by omega, by go_num, by rw [HT.out], HB5⟩
          case measure => simp [intOf]; omega
        · obtain rfl : m = D.length := by omega
          have HT : Hid ((D.take D.length).contains A[k] = D.contains A[k]) := by show _ = _; rw [List.take_length]
          rw [HT.out]
          clear HT
          obtain ⟨ex, hex⟩ : ∃ ex, D.contains A[k] = ex := ⟨_, rfl⟩
          rw [hex]
          have HE := Lib.hid hex
          clear hex
          cases ex
          · have HV : Hid (readyB A D = false) := by
              show _ = _; unfold readyB; rw [List.all_eq_false]; exact ⟨A[k], List.getElem_mem hlt, by rw [HE.out]; decide⟩
            go_wp2_with fail
            go_ret
            exact ⟨ret_bool HV.out.symm, hb2.out⟩
          · have HJ := Lib.hid (upto (q := fun j => D.contains (A.getD j default) = true) hj.out (by simp only [List.getD_eq_getElem?_getD, List.getElem?_eq_getElem hlt, Option.getD_some]; exact HE.out))
            go_wp2_with fail
            go_roundw
            case rel => exact ⟨k + 1, by omega, by go_num, hb2, HJ⟩
            case measure => simp [intOf]; omega
    · have HV : Hid (readyB A D = true) := by
        show _ = _; unfold readyB; rw [List.all_eq_true]
        intro a ha
        obtain ⟨j, hj2, rfl⟩ := List.mem_iff_getElem.1 ha
        have := hj.out j (by omega)
        simpa [hj2] using this
      go_wp2_with fail
      go_ret
      exact ⟨ret_bool HV.out.symm, hb.out⟩
end Go.Proofs.YtlmfcigabojbmaaGreatDoor

/- Contract: check of shop's reference. -/
namespace Go.Proofs.YtlmfcigabojbmaaGreatDoor
open Go.RowKit

theorem jobsE_at {l : List Wrk} {k : Nat} (h : ¬ 128 < l.length) (h0 : firstE (jobE l) k = 0) (hk : k < l.length) (hne : jobE l k ≠ 0) : jobsE l = jobE l k := by
  have e : firstE (jobE l) l.length = jobE l k := by rw [firstE_stop (k := k + 1) (by rw [firstE_zero h0]; exact hne) (by omega), firstE_zero h0]
  unfold jobsE
  rw [if_neg h, e, if_neg hne]
theorem jobsE_un {l : List Wrk} {k : Nat} (h : ¬ 128 < l.length) (h0 : firstE (jobE l) l.length = 0) (hk : k < l.length) (hn : knownB l l[k] = false) : jobsE l = 8 := by
  unfold jobsE
  rw [if_neg h, if_pos h0, if_neg (by rw [List.all_eq_true]; intro h2; have := h2 _ (List.getElem_mem hk); rw [hn] at this; cases this)]
theorem jobsE_good {l : List Wrk} (h : ¬ 128 < l.length) (h0 : firstE (jobE l) l.length = 0) (hn : ∀ w ∈ l, knownB l w = true) : jobsE l = 0 := by
  unfold jobsE
  rw [if_neg h, if_pos h0, if_pos (List.all_eq_true.2 hn)]
theorem jobE_ml {l : List MW} {k : Nat} (hk : k < l.length) : jobE (wl l) k = if idB (mri l k).w.id = false then 6 else if (l.take k).any (fun m => m.w.id == (mri l k).w.id) = true then 7 else if rangeW (mri l k).w = false then 9 else 0 := by
  unfold jobE
  rw [wri_ml hk]
  have : ((wl l).take k).any (fun w => w.id == (mri l k).w.id) = (l.take k).any (fun m => m.w.id == (mri l k).w.id) := by
    unfold wl; rw [← List.map_take, List.any_map]; rfl
  rw [this]
theorem find_lt {p : MW → Bool} {l : List MW} {k : Nat} (hk : k < l.length) (hp : p (mri l k) = true) : (findG p l < (k : Int) ↔ (l.take k).any p = true) := by
  unfold findG
  cases h : l.findIdx? p with
  | none =>
    rw [List.findIdx?_eq_none_iff] at h
    have := h _ (mri_mem hk); rw [hp] at this; cases this
  | some i =>
    rw [List.findIdx?_eq_some_iff_getElem] at h
    obtain ⟨h1, h2, h3⟩ := h
    dsimp only
    rw [List.any_eq_true]
    constructor
    · intro hlt
      exact ⟨l[i], by rw [List.mem_take_iff_getElem]; exact ⟨i, by omega, rfl⟩, h2⟩
    · rintro ⟨x, hx, hpx⟩
      rw [List.mem_take_iff_getElem] at hx
      obtain ⟨j, hj, rfl⟩ := hx
      rcases Nat.lt_or_ge j i with hji | hji
      · have := h3 j hji; rw [hpx] at this; exact absurd rfl this
      · omega
theorem wrange_not (w : Wrk) : ((((decide (w.hours < 1) || decide (1048576 < w.hours)) || decide (w.len < 1)) || decide (524288 < w.len)) || decide (w.wid < 1) || decide (524288 < w.wid)) = !rangeW w := by
  unfold rangeW sideB
  rw [Bool.eq_iff_iff]
  simp only [Bool.or_eq_true, decide_eq_true_eq, Bool.not_eq_true', ← Bool.not_eq_true, Bool.and_eq_true]
  omega
theorem known_any {l : List MW} (a : List UInt8) : (wl l).any (fun u => u.id == a) = l.any (fun m => m.w.id == a) := by unfold wl; rw [List.any_map]; rfl
set_option maxRecDepth 100000 in
set_option maxHeartbeats 2000000 in
theorem check42_any (v : Value) (l : List MW) (w : World) (h : SWk w v l) (ha : Aft w l) (hs : ∀ m ∈ l, m.w.id.length ≤ 1100000) : Calls Tryz.prog 14 #[v] w (Ret w (.int .i64 (jobsE (wl l)))) := by
  have HS := Lib.hid h; have HA := Lib.hid ha; have HID := Lib.hid hs
  obtain ⟨a, cap, rfl, h1, h2, h3⟩ := h
  have H3 := Lib.hid h3
  clear h3 ha hs
  have hm : l.length ≤ 9223372036854775807 := by unfold maxLen at h2; omega
  by_cases hlong : 128 < l.length
  · have HV : Hid (jobsE (wl l) = 4) := by show _ = _; unfold jobsE; rw [wl_len, if_pos hlong]
    have i1 : (128 : Int) < l.length := by omega
    go_enter Tryz.func14, Tryz.ntmps14
    go_wp2_with fail
    go_ret
    exact ⟨ret_int HV.out.symm, Below.refl _ _⟩
  have HNL : Hid (¬ 128 < (wl l).length) := by show ¬ _; rw [wl_len]; exact hlong
  have i1 : ¬ (128 : Int) < l.length := by omega
  go_enter Tryz.func14, Tryz.ntmps14
  go_wp2_with fail
  clear i1 hlong
  go_loopw [3] (fun i wr => ∃ k : Nat, k ≤ l.length ∧ i = .int .i64 k ∧ Hid (Below w.heap.size w wr) ∧ Hid (firstE (jobE (wl l)) k = 0)) (fun i _ => l.length - (intOf i).toNat)
  case atStart => exact ⟨0, Nat.zero_le _, rfl, Lib.hid (Below.refl _ _), Lib.hid rfl⟩
  case round =>
    obtain ⟨k, hk, rfl, hb, hf⟩ := hrel
    by_cases hlt : k < l.length
    · obtain ⟨b, off, rfl, hc⟩ := H3.out k hlt
      obtain ⟨c0, c1, c2, c3, c4⟩ := hc.keep hb.out
      obtain ⟨va, vc, hav, _⟩ := HA.out.form hlt
      have HAV := Lib.hid hav
      rw [hav] at c4
      obtain ⟨W1, HO1, HC1, HW, _⟩ := copyW wr (mri l k) hav
      clear hav
      have HB1 := Lib.hid (ext_trans hb.out HC1.out)
      have HJE := Lib.hid (jobE_ml hlt)
      clear hc
      go_upto_region 7 with fail
      rw [HW.out]
      clear c0 c1 c2 c3 c4 HW
      obtain ⟨c0, c1, c2, c3, c4⟩ := wkC HO1.out
      rw [HAV.out] at c4
      go_wp2_with fail
      refine (rIsId_any _ _ (by rw [bs_size]; exact HID.out _ (mri_mem hlt))).mono ?_
      clear c0 c1 c2 c3 c4
      rintro e w2 ⟨rfl, h2⟩
      rw [bs_list]
      have HB2 := Lib.hid (ext_trans HB1.out h2)
      have HO2 := Lib.hid (HO1.out.keep h2)
      clear h2
      cases hid : idB (mri l k).w.id
      · have HV : Hid (jobsE (wl l) = 6) := by
          have e : jobE (wl l) k = 6 := by rw [HJE.out, if_pos hid]
          show _ = _; rw [jobsE_at HNL.out hf.out (by rw [wl_len]; exact hlt) (by rw [e]; decide), e]
        clear hid HJE
        go_wp2_with fail
        go_ret
        exact ⟨ret_int HV.out.symm, HB2.out⟩
      have HI := Lib.hid hid
      clear hid
      obtain ⟨c0, c1, c2, c3, c4⟩ := wkC HO2.out
      rw [HAV.out] at c4
      go_wp2_with fail
      clear c0 c1 c2 c3 c4
      refine (r42find_any _ l (mri l k).w.id w2 (HS.out.keep HB2.out)).mono ?_
      rintro e w3 ⟨rfl, h3⟩
      have HB3 := Lib.hid (ext_trans HB2.out h3)
      have HO3 := Lib.hid (HO2.out.keep h3)
      have HFL := Lib.hid (find_lt (p := fun m => m.w.id == (mri l k).w.id) hlt (by simp))
      clear h3 HO2 HO1 HC1
      obtain ⟨F, hF⟩ : ∃ F, findG (fun m : MW => m.w.id == (mri l k).w.id) l = F := ⟨_, rfl⟩
      rw [hF] at HFL ⊢
      clear hF
      by_cases hx : F < (k : Int)
      · have HV : Hid (jobsE (wl l) = 7) := by
          have e : jobE (wl l) k = 7 := by rw [HJE.out, if_neg (by rw [HI.out]; decide), if_pos (HFL.out.1 hx)]
          show _ = _; rw [jobsE_at HNL.out hf.out (by rw [wl_len]; exact hlt) (by rw [e]; decide), e]
        clear HJE
        go_wp2_with fail
        go_ret
        exact ⟨ret_int HV.out.symm, HB3.out⟩
      have HNX : Hid (¬ (l.take k).any (fun m => m.w.id == (mri l k).w.id) = true) := fun h => hx (HFL.out.2 h)
      clear HFL
      go_upto_region 11 with fail
      clear hx
      refine wp_region_et skT skT_ok [wkO wr.heap.size 0 (mri l k)] (fun v => v = w3) [(4, 0)] [] [(57, .bool (!rangeW (mri l k).w))] (by kernel_rfl) rfl (obs1 fun v hv => by subst hv; exact range_wk HO3.out) ⟨rfl, trivial⟩ ?_
      conv => whnf
      intro f1
      conv => whnf
      refine And.intro (congrArg Value.bool (wrange_not _)) ?_
      conv => whnf
      intro w' hw'
      subst hw'
      obtain ⟨rg, hrg⟩ : ∃ rg, rangeW (mri l k).w = rg := ⟨_, rfl⟩
      rw [hrg]
      cases rg
      · have HV : Hid (jobsE (wl l) = 9) := by
          have e : jobE (wl l) k = 9 := by rw [HJE.out, if_neg (by rw [HI.out]; decide), if_neg HNX.out, if_pos hrg]
          show _ = _; rw [jobsE_at HNL.out hf.out (by rw [wl_len]; exact hlt) (by rw [e]; decide), e]
        clear HJE hrg
        go_wp2_with fail
        go_ret
        exact ⟨ret_int HV.out.symm, HB3.out⟩
      · have HF2 : Hid (firstE (jobE (wl l)) (k + 1) = 0) := by
          show _ = _; rw [firstE_zero hf.out, HJE.out, if_neg (by rw [HI.out]; decide), if_neg HNX.out, if_neg (by rw [hrg]; decide)]
        clear HJE hrg
        go_wp2_with fail
        go_roundw
        case rel => exact ⟨k + 1, by omega, by go_num, HB3, HF2⟩
        case measure => simp [intOf]; omega
    · obtain rfl : k = l.length := by omega
      have HF : Hid (firstE (jobE (wl l)) (wl l).length = 0) := by show _ = _; rw [wl_len]; exact hf.out
      clear hf
      go_wp2_with fail
      go_loopw [5] (fun i wr => ∃ k : Nat, k ≤ l.length ∧ i = .int .i64 k ∧ Hid (Below w.heap.size w wr) ∧ Hid (∀ j, j < k → knownB (wl l) (mri l j).w = true)) (fun i _ => l.length - (intOf i).toNat)
      case atStart => exact ⟨0, Nat.zero_le _, rfl, hb, Lib.hid fun j hj => by omega⟩
      case round =>
        obtain ⟨k, hk, rfl, hb, hj⟩ := hrel
        by_cases hlt : k < l.length
        · go_wp2_with fail
          obtain ⟨b, off, rfl, hc⟩ := H3.out k hlt
          have HCS := Lib.hid hc
          obtain ⟨aa, ac, hav, a1, a2, a3⟩ := HA.out.form hlt
          have A3 := Lib.hid a3
          have HAV := Lib.hid hav
          clear hc hav a3
          go_loopw [6] (fun i wr => ∃ m : Nat, m ≤ (mri l k).w.after.length ∧ i = .int .i64 m ∧ Hid (Below w.heap.size w wr) ∧ Hid (∀ j, j < m → (wl l).any (fun u => u.id == (mri l k).w.after.getD j default) = true)) (fun i _ => (mri l k).w.after.length - (intOf i).toNat)
          case atStart => exact ⟨0, Nat.zero_le _, rfl, hb, Lib.hid fun j hj => by omega⟩
          case round =>
            obtain ⟨m, hm2, rfl, hb2, hj2⟩ := hrel
            have c4 := (HCS.out.keep hb2.out).c4
            rw [HAV.out] at c4
            have hm3 : (mri l k).w.after.length ≤ 9223372036854775807 := by unfold maxLen at a2; omega
            by_cases hlt2 : m < (mri l k).w.after.length
            · obtain ⟨ab, ao, rfl, hc⟩ := A3.out m hlt2
              have hcc := cell_keep hb2.out hc
              clear hc
              go_wp2_with fail
              clear hcc c4
              refine (r42find_any _ l _ wr (HS.out.keep hb2.out)).mono ?_
              rintro e w3 ⟨rfl, h3⟩
              have HB3 := Lib.hid (ext_trans hb2.out h3)
              have HFA := Lib.hid (findG_any (fun m' : MW => m'.w.id == (mri l k).w.after[m]) l)
              clear h3
              obtain ⟨F, hF⟩ : ∃ F, findG (fun m' : MW => m'.w.id == (mri l k).w.after[m]) l = F := ⟨_, rfl⟩
              rw [hF] at HFA ⊢
              clear hF
              by_cases hx : F < 0
              · have HV : Hid (jobsE (wl l) = 8) := by
                  refine jobsE_un (k := k) HNL.out HF.out (by rw [wl_len]; exact hlt) ?_
                  have e : (wl l)[k]'(by rw [wl_len]; exact hlt) = (mri l k).w := by rw [mri_lt hlt]; simp [wl]
                  rw [e]
                  unfold knownB
                  rw [List.all_eq_false]
                  refine ⟨(mri l k).w.after[m], List.getElem_mem hlt2, ?_⟩
                  rw [known_any, ← HFA.out, decide_eq_true_eq]; omega
                go_wp2_with fail
                go_ret
                exact ⟨ret_int HV.out.symm, HB3.out⟩
              · have HJ := Lib.hid (upto (q := fun j => (wl l).any (fun u => u.id == (mri l k).w.after.getD j default) = true) hj2.out (by
                  simp only [List.getD_eq_getElem?_getD, List.getElem?_eq_getElem hlt2, Option.getD_some]
                  rw [known_any, ← HFA.out, decide_eq_true_eq]; omega))
                go_wp2_with fail
                go_roundw
                case rel => exact ⟨m + 1, by omega, by go_num, HB3, HJ⟩
                case measure => simp [intOf]; omega
            · obtain rfl : m = (mri l k).w.after.length := by omega
              have HJ := Lib.hid (upto (q := fun j => knownB (wl l) (mri l j).w = true) hj.out (by
                unfold knownB
                rw [List.all_eq_true]
                intro a ha
                obtain ⟨j, hj3, rfl⟩ := List.mem_iff_getElem.1 ha
                have := hj2.out j hj3
                simp only [List.getD_eq_getElem?_getD, List.getElem?_eq_getElem hj3, Option.getD_some] at this
                exact this))
              go_wp2_with fail
              go_roundw
              case rel => exact ⟨k + 1, by omega, by go_num, hb2, HJ⟩
              case measure => simp [intOf]; omega
        · have HV : Hid (jobsE (wl l) = 0) := by
            refine jobsE_good HNL.out HF.out fun u hu => ?_
            unfold wl at hu
            obtain ⟨m, hm, rfl⟩ := List.mem_map.1 hu
            obtain ⟨j, hj3, rfl⟩ := mem_mri hm
            exact hj.out j (by omega)
          go_wp2_with fail
          go_ret
          exact ⟨ret_int HV.out.symm, hb.out⟩
end Go.Proofs.YtlmfcigabojbmaaGreatDoor

/- Contract: Order of shop's reference. -/
namespace Go.Proofs.YtlmfcigabojbmaaGreatDoor
open Go.RowKit

theorem Tryz_infoBool : (Tryz.prog.info? 4).map (fun i => (i.zero, i.size, i.bytes)) = some (some (.bool false), 1, 1) := by kernel_rfl
theorem make_bools (n : Nat) (hn : n ≤ 100000) (w : World) : (Instr.makeSlice 54 (.int .i64 (n : Int)) (.int .i64 (n : Int))).run Tryz.prog w = .ok (.slice (some ⟨w.heap.size, 0, none⟩) n n) (w.alloc (.cells (Array.replicate n (.bool false)) 4)) := by
  obtain ⟨i, hi, hz0, hz1, hz2⟩ := info_parts Tryz_infoBool
  have h := run_make (P := Tryz.prog) w 54 4 i (.bool false) Tryz.underlying54 hi hz0 .i64 .i64 n n (by omega) (by omega) (by rw [hz2]; omega) (by omega)
  rw [hz1, Int.toNat_natCast] at h
  have e : madeCells (Value.bool false).cells (n * 1) = Array.replicate n (.bool false) := by
    apply Array.ext
    · simp [madeCells]
    · intro j h1 h2
      simp [madeCells, Value.cells, Nat.mod_one]
  rw [e] at h
  exact h
/-- the row of taken jobs -/
def tkA (l : List Wrk) (D : List (List UInt8)) : Array Value := ((List.range l.length).map fun i => Value.bool (tkB l D i)).toArray
theorem tkA_nil (l : List Wrk) : tkA l [] = Array.replicate l.length (.bool false) := by
  apply Array.ext
  · simp [tkA]
  · intro j h1 h2
    simp [tkA, tkB]
theorem tkA_at {l : List Wrk} {D : List (List UInt8)} {i : Nat} (hi : i < l.length) : (tkA l D)[i]? = some (.bool (tkB l D i)) := by
  simp [tkA, hi]
theorem tkA_set {l : List Wrk} (hd : ∀ i j, i < l.length → j < l.length → (wri l i).id = (wri l j).id → i = j) (hu : Uniq l) (D : List (List UInt8)) {k : Nat} (hk : k < l.length) : (tkA l D).setIfInBounds k (.bool true) = tkA l (D ++ [(wri l k).id]) := by
  apply Array.ext
  · simp [tkA]
  · intro j h1 h2
    have hj : j < l.length := by simpa [tkA] using h2
    rw [Array.getElem_setIfInBounds (by simpa [tkA] using hj)]
    have e2 : (tkA l (D ++ [(wri l k).id]))[j] = .bool (tkB l (D ++ [(wri l k).id]) j) := by simp [tkA]
    rw [e2, tk_snoc hu hd D hk hj]
    by_cases e : k = j
    · subst e; simp
    · rw [if_neg e]
      have : decide (j = k) = false := by simp [Ne.symm e]
      rw [this, Bool.or_false]
      simp [tkA]
def wkS (m : MW) (a : Option Addr) (n c : Nat) : List Value := [.string (bs m.w.id), .int .i64 m.w.hours, .int .i64 m.w.len, .int .i64 m.w.wid, .slice a n c]
theorem wAt_slice {w : World} {b off : Nat} {m : MW} {a : Option Addr} {n c : Nat} (h : WkAt w b off m) (hav : m.av = .slice a n c) : w.rangeAt b off (wkS m a n c) := by
  have := wAt_range h; unfold wkCells at this; rw [hav] at this; exact this
def lenOf (v : Value) : Nat := match v with | .slice _ n _ => n | _ => 0
theorem ready_ids (l : List MW) (D : List (List UInt8)) (i : Nat) : readyW D (mri l i).w = (!D.contains (mri l i).w.id && readyB (mri l i).w.after D) := rfl
/-- what Order works with -/
structure OrdP (w0 w : World) (B tb : Nat) (l : List MW) (n : Nat) (o : Value) : Prop where
  own : OwnZ w B o (((ordF (wl l) n).map (·.id)).map bs)
  len : (ordF (wl l) n).length = n
  tk : ObjAt w tb (tkA (wl l) ((ordF (wl l) n).map (·.id))) 4
  bw : Below B w0 w
theorem OrdP.below {w0 w w' : World} {B tb : Nat} {l : List MW} {n : Nat} {o : Value} (h : OrdP w0 w B tb l n o) (hb : Below w.heap.size w w') (hB : B ≤ w.heap.size) : OrdP w0 w' B tb l n o :=
  ⟨h.own.below hb, h.len, h.tk.keep hb, h.bw.trans (hb.mono hB)⟩
set_option maxRecDepth 100000 in
set_option maxHeartbeats 2000000 in
theorem Order42_any (v : Value) (l : List MW) (w : World) (h : SWk w v l) (ha : Aft w l) (hs : ∀ m ∈ l, m.w.id.length ≤ 1100000) : Calls Tryz.prog 5 #[v] w fun e w' => ∃ ov, e = .returned (.tuple #[ov, .int .i64 (ordE (wl l))]) ∧ (ordE (wl l) = 0 → SZ w' ov (((ordF (wl l) l.length).map (·.id)).map bs)) ∧ Below w.heap.size w w' := by
  have HS := Lib.hid h; have HA := Lib.hid ha; have HID := Lib.hid hs
  obtain ⟨a, cap, rfl, h1, h2, h3⟩ := h
  have H3 := Lib.hid h3
  clear h3 ha
  have hm : l.length ≤ 9223372036854775807 := by unfold maxLen at h2; omega
  go_enter Tryz.func5, Tryz.ntmps5
  go_wp2_with fail
  refine (check42_any _ l w HS.out HA.out hs).mono ?_
  clear hs
  rintro e w1 ⟨rfl, h1'⟩
  have HB1 := Lib.hid h1'
  clear h1'
  by_cases hj : jobsE (wl l) = 0
  rotate_left
  · have HV : Hid (ordE (wl l) = jobsE (wl l)) := by show _ = _; unfold ordE; rw [if_neg hj]
    have hne : (jobsE (wl l) != 0) = true := bne_iff_ne.2 hj
    have HJ := Lib.hid hj
    clear hj
    go_wp2_with fail
    go_ret2
    exact ⟨.slice none 0 0, by rw [HV.out]; rfl, fun h => absurd (HV.out.symm.trans h) HJ.out, HB1.out⟩
  rw [hj]
  obtain ⟨q1, q2, q3⟩ := jobs_first hj
  have HJ := Lib.hid hj
  have HU := Lib.hid (jobs_uniq q1)
  have HD := Lib.hid (jobs_inj q1)
  rw [wl_len] at q2
  have hn : l.length ≤ 128 := by omega
  clear hj q1 q2 q3
  have hmk := make_bools l.length (by omega)
  obtain ⟨W2, hW2⟩ : ∃ W2, w1.alloc (.cells (Array.replicate l.length (.bool false)) 4) = W2 := ⟨_, rfl⟩
  have HP0 : Hid (OrdP w W2 w.heap.size w1.heap.size l 0 (.slice none 0 0)) := by
    show OrdP ..
    rw [← hW2]
    exact ⟨OwnZ_nil _ _, rfl, by rw [show ((ordF (wl l) 0).map (·.id)) = [] from rfl, tkA_nil, wl_len]; exact ObjAt.new _ _ _, HB1.out.alloc HB1.out.size _⟩
  have HW2 := Lib.hid hW2
  have HZ : Hid (w.heap.size ≤ w1.heap.size) := HB1.out.size
  clear hW2
  go_wp2_with fail
  rw [HW2.out]
  clear hmk HW2
  go_loopw [5] (fun o wr => ∃ n : Nat, n ≤ l.length ∧ (∃ oa oc, o = .slice oa n oc) ∧ Hid (OrdP w wr w.heap.size w1.heap.size l n o)) (fun o _ => l.length - lenOf o)
  case atStart => exact ⟨0, Nat.zero_le _, ⟨_, _, rfl⟩, HP0⟩
  case round =>
    obtain ⟨n, hnl, ⟨oa, oc, rfl⟩, hp⟩ := hrel
    have hnm : n ≤ 128 := by omega
    by_cases hlt : n < l.length
    · obtain ⟨D, hD⟩ : ∃ D, (ordF (wl l) n).map (·.id) = D := ⟨_, rfl⟩
      have HDD := Lib.hid hD
      clear hD
      go_wp2_with fail
      go_loopw [7, 8] (fun x i wr => ∃ k : Nat, k ≤ l.length ∧ i = .int .i64 k ∧ x = .int .i64 (nxtI (wl l) D k) ∧ Hid (OrdP w wr w.heap.size w1.heap.size l n (.slice oa n oc))) (fun _ i _ => l.length - (intOf i).toNat)
      case atStart => exact ⟨0, Nat.zero_le _, rfl, rfl, hp⟩
      case round =>
        obtain ⟨k, hk, rfl, rfl, hp2⟩ := hrel
        by_cases hlt2 : k < l.length
        · obtain ⟨b, off, rfl, hc⟩ := H3.out k hlt2
          obtain ⟨va, vc, hav, _⟩ := HA.out.form hlt2
          have HAV := Lib.hid hav
          have HC := Lib.hid (wAt_slice (hc.keep hp2.out.bw) hav)
          have HSA : Hid (SZ w (.slice va (mri l k).w.after.length vc) ((mri l k).w.after.map bs)) := by show SZ _ _ _; rw [← hav]; exact HA.out _ (mri_mem hlt2)
          have HSD : Hid (SZ wr (.slice oa n oc) (D.map bs)) := by have := hp2.out.own.sl; rw [HDD.out] at this; exact this
          have HTK : Hid (wr.rangeAt w1.heap.size k [.bool (tkB (wl l) D k)]) := intR (by rw [hp2.out.tk.cell, HDD.out]; exact tkA_at (by rw [wl_len]; exact hlt2))
          have HNX : Hid (nxtI (wl l) D (k + 1) = if (readyW D (mri l k).w && (decide (nxtI (wl l) D k < 0) || idLt (mri l k).w.id (wri (wl l) (nxtI (wl l) D k).toNat).id)) = true then (k : Int) else nxtI (wl l) D k) := by
            show _ = _; rw [← wri_ml hlt2]; rfl
          have HRD := Lib.hid (ready_ids l D k)
          have HTB : Hid (tkB (wl l) D k = D.contains (mri l k).w.id) := by show _ = _; unfold tkB; rw [wri_ml hlt2]
          have HSP := Lib.hid (nxtI_spec (wl l) D k)
          clear hc hav
          rcases HSP.out with ⟨hx, _⟩ | ⟨kk, hkk, hx, _⟩
          · rw [hx]
            rw [hx, show decide ((-1 : Int) < 0) = true from rfl, Bool.true_or, Bool.and_true] at HNX
            clear hx HSP
            go_upto_region 11 with fail
            refine wp_region_ev skT skT_ok [⟨w1.heap.size, k, [.bool (tkB (wl l) D k)]⟩, ⟨b, off + k * 5, wkS (mri l k) va (mri l k).w.after.length vc⟩] (Below wr.heap.size wr) [] [(30, .ix k 0), (36, .ix k 1), (40, .ret (.bool (readyB (mri l k).w.after D))), (48, .ix k 1), (53, .ix k 1)] [(58, .bool (readyW D (mri l k).w))] (by kernel_rfl) mixed (by kernel_rfl) ((Below.refl _ _).drew) (obs2 (fun v hv => rangeKeep HTK.out hv) (fun v hv => rangeKeep HC.out hv)) trivial ?_
            conv => whnf
            refine And.intro (under_of ⟨rfl, hlt2, rfl, by show k = 0 + k * 1; omega⟩) ?_
            conv => whnf
            refine And.intro (under_of ⟨rfl, hlt2, rfl, rfl⟩) ?_
            conv => whnf
            refine And.intro (under_of fun v hv => (ready_any _ _ _ D v (HSA.out.keep (ext_trans hp2.out.bw hv)) (HSD.out.keep hv)).mono fun e v' he => ⟨he.1, ext_trans hv he.2⟩) ?_
            conv => whnf
            refine And.intro (under_of ⟨rfl, hlt2, rfl, rfl⟩) ?_
            conv => whnf
            refine And.intro (by show (decide ((-1 : Int) < 0) = false → _); intro h; exact absurd h (by decide)) ?_
            conv => whnf
            intro f1
            conv => whnf
            refine And.intro ?_ ?_
            · refine congrArg Value.bool ?_
              rw [HRD.out, HTB.out, show decide ((-1 : Int) < 0) = true from rfl, Bool.true_or, Bool.and_true]
            conv => whnf
            intro w5 h5
            have HP5 := Lib.hid (hp2.out.below h5 (Nat.le_trans HZ.out (Nat.le_of_lt hp2.out.tk.lt)))
            clear h5 HC HSA HSD HTK HRD HTB hp2
            obtain ⟨rd, hrd⟩ : ∃ rd, readyW D (mri l k).w = rd := ⟨_, rfl⟩
            rw [hrd] at HNX ⊢
            clear hrd
            cases rd
            · have HN2 : Hid (nxtI (wl l) D (k + 1) = -1) := by show _ = _; rw [HNX.out, if_neg (by decide)]
              clear HNX
              go_wp2_with fail
              go_roundw
              case rel => exact ⟨k + 1, by omega, by go_num, by rw [HN2.out], HP5⟩
              case measure => simp [intOf]; omega
            · have HN2 : Hid (nxtI (wl l) D (k + 1) = k) := by show _ = _; rw [HNX.out, if_pos rfl]
              clear HNX
              go_wp2_with fail
              go_roundw
              case rel => exact ⟨k + 1, by omega, by go_num, by rw [HN2.out], HP5⟩
              case measure => simp [intOf]; omega
          · obtain ⟨b2, off2, e2, hc2⟩ := H3.out kk (by omega)
            simp only [Option.some.injEq, Addr.mk.injEq, and_true] at e2
            obtain ⟨rfl, rfl⟩ := e2
            obtain ⟨va2, vc2, hav2, _⟩ := HA.out.form (show kk < l.length by omega)
            have HC2 := Lib.hid (wAt_slice (hc2.keep hp2.out.bw) hav2)
            have hkl : kk < l.length := by omega
            rw [hx]
            have hk0 : ¬ ((kk : Int) < 0) := by omega
            rw [hx, decide_eq_false hk0, Bool.false_or, Int.toNat_natCast, wri_ml hkl] at HNX
            have HLS := Lib.hid (less_idLt (mri l k).w.id (mri l kk).w.id)
            have HK0 := Lib.hid hk0
            clear hx HSP hc2 hav2 hk0
            go_upto_region 11 with fail
            refine wp_region_ev skT skT_ok [⟨w1.heap.size, k, [.bool (tkB (wl l) D k)]⟩, ⟨b, off + k * 5, wkS (mri l k) va (mri l k).w.after.length vc⟩, ⟨b, off + kk * 5, wkS (mri l kk) va2 (mri l kk).w.after.length vc2⟩] (Below wr.heap.size wr) [] [(30, .ix k 0), (36, .ix k 1), (40, .ret (.bool (readyB (mri l k).w.after D))), (48, .ix k 1), (53, .ix kk 2)] [(58, .bool (readyW D (mri l k).w && idLt (mri l k).w.id (mri l kk).w.id))] (by kernel_rfl) mixed (by kernel_rfl) ((Below.refl _ _).drew) (obs3 (fun v hv => rangeKeep HTK.out hv) (fun v hv => rangeKeep HC.out hv) (fun v hv => rangeKeep HC2.out hv)) trivial ?_
            conv => whnf
            refine And.intro (under_of ⟨rfl, hlt2, rfl, by show k = 0 + k * 1; omega⟩) ?_
            conv => whnf
            refine And.intro (under_of ⟨rfl, hlt2, rfl, rfl⟩) ?_
            conv => whnf
            refine And.intro (under_of fun v hv => (ready_any _ _ _ D v (HSA.out.keep (ext_trans hp2.out.bw hv)) (HSD.out.keep hv)).mono fun e v' he => ⟨he.1, ext_trans hv he.2⟩) ?_
            conv => whnf
            refine And.intro (under_of ⟨rfl, hlt2, rfl, rfl⟩) ?_
            conv => whnf
            refine And.intro (under_of ⟨rfl, hkl, rfl, rfl⟩) ?_
            conv => whnf
            intro f1
            conv => whnf
            refine And.intro ?_ ?_
            · refine congrArg Value.bool ?_
              rw [HRD.out, HTB.out, decide_eq_false HK0.out, Bool.false_or, bs_toList, bs_toList, HLS.out]
            conv => whnf
            intro w5 h5
            have HP5 := Lib.hid (hp2.out.below h5 (Nat.le_trans HZ.out (Nat.le_of_lt hp2.out.tk.lt)))
            clear h5 HC HC2 HSA HSD HTK HRD HTB hp2 HLS HK0
            obtain ⟨rd, hrd⟩ : ∃ rd, (readyW D (mri l k).w && idLt (mri l k).w.id (mri l kk).w.id) = rd := ⟨_, rfl⟩
            rw [hrd] at HNX ⊢
            clear hrd
            cases rd
            · have HN2 : Hid (nxtI (wl l) D (k + 1) = kk) := by show _ = _; rw [HNX.out, if_neg (by decide)]
              clear HNX
              go_wp2_with fail
              go_roundw
              case rel => exact ⟨k + 1, by omega, by go_num, by rw [HN2.out], HP5⟩
              case measure => simp [intOf]; omega
            · have HN2 : Hid (nxtI (wl l) D (k + 1) = k) := by show _ = _; rw [HNX.out, if_pos rfl]
              clear HNX
              go_wp2_with fail
              go_roundw
              case rel => exact ⟨k + 1, by omega, by go_num, by rw [HN2.out], HP5⟩
              case measure => simp [intOf]; omega
        · obtain rfl : k = l.length := by omega
          have HNN := Lib.hid (nxt_none (l := wl l) (D := D))
          have HNS := Lib.hid (nxt_some (l := wl l) (D := D) HU.out)
          rw [wl_len] at HNN HNS
          obtain ⟨nx, hnx⟩ : ∃ nx, nxtI (wl l) D l.length = nx := ⟨_, rfl⟩
          rw [hnx] at HNN HNS ⊢
          clear hnx
          have HST := Lib.hid (ordE_stuck (l := wl l) (n := n) HJ.out (by rw [wl_len]; exact hlt) hp2.out.len)
          by_cases hneg : nx < 0
          · have HV : Hid (ordE (wl l) = 20) := HST.out (by rw [HDD.out]; exact HNN.out hneg)
            have HB := Lib.hid hp2.out.bw
            clear HNN HNS HST hp2
            go_wp2_with fail
            go_ret2
            exact ⟨.slice none 0 0, by rw [HV.out]; rfl, fun h => absurd (HV.out.symm.trans h) (by decide), HB.out⟩
          · obtain ⟨kk, hkk, hx, hnf⟩ := HNS.out hneg
            rw [hx]
            have hk0 : ¬ ((kk : Int) < 0) := by omega
            have hkn : (kk : Int) < l.length := by omega
            have HNF : Hid (ordF (wl l) (n + 1) = ordF (wl l) n ++ [(mri l kk).w]) := by
              show _ = _; rw [← wri_ml hkk]; exact ordF_next (by rw [HDD.out]; exact hnf)
            have tc : wr.cell? ⟨w1.heap.size, kk, none⟩ = some (.bool (tkB (wl l) D kk)) := by rw [hp2.out.tk.cell, HDD.out]; exact tkA_at (by rw [wl_len]; exact hkk)
            have tf : wr.frozen? ⟨w1.heap.size, kk, none⟩ = false := obj_free hp2.out.tk kk
            obtain ⟨b, off, rfl, hc⟩ := H3.out kk hkk
            obtain ⟨W5, hW5⟩ : ∃ W5, wr.setCell ⟨w1.heap.size, kk, none⟩ (.bool true) = W5 := ⟨_, rfl⟩
            have HB5 : Hid (Below w.heap.size w W5) := by show Below _ _ _; rw [← hW5]; exact hp2.out.bw.setCell (p := ⟨w1.heap.size, kk, none⟩) HZ.out _
            have HT5 : Hid (ObjAt W5 w1.heap.size (tkA (wl l) (D ++ [(mri l kk).w.id])) 4) := by
              show ObjAt _ _ _ _; rw [← hW5, ← wri_ml hkk, ← tkA_set HD.out HU.out D (by rw [wl_len]; exact hkk)]
              have := hp2.out.tk.set kk (.bool true)
              rw [HDD.out] at this
              exact this
            have HO5 : Hid (OwnZ W5 w.heap.size (.slice oa n oc) (D.map bs)) := by
              show OwnZ _ _ _ _; rw [← hW5]
              have := hp2.out.tk.rowSet hp2.out.own (by decide) kk (.bool true)
              rw [HDD.out] at this
              exact this
            have HDL : Hid (D.length = n) := by show _ = _; rw [← HDD.out, List.length_map]; exact hp2.out.len
            have HFL := Lib.hid hp2.out.len
            have HW5 := Lib.hid hW5
            clear hW5 hx hneg HNN HNS HST hnf
            go_upto_region 16 with fail
            rw [HW5.out]
            clear tc tf HW5 hp2 hp
            have c0 := (hc.keep HB5.out).c0
            have HOA := Lib.hid (HO5.out.below ((Below.refl _ _).alloc (Nat.le_refl _) (.cells #[.string (bs (mri l kk).w.id)] 9)))
            have HCY : Hid ((W5.alloc (.cells #[.string (bs (mri l kk).w.id)] 9)).cell? ⟨W5.heap.size, 0, none⟩ = some (.string (bs (mri l kk).w.id))) := by
              show _ = _; rw [cell_of_row _ _ 0 _ _ _ (World.alloc_heap_new W5 _)]; rfl
            have hzw : w.heap.size ≤ W5.heap.size := HB5.out.size
            have HL1 : Hid ((D.map bs).length ≤ 2000000) := by show _ ≤ _; rw [List.length_map, HDL.out]; omega
            have HNE := Lib.hid (HT5.out.ne HO5.out (by decide))
            clear hc
            go_wp2_with (at_builtin; refine wpList_app_str rfl (.tmp 65) (.tmp 71) rfl w.heap.size _ (D.map bs) rfl HOA.out W5.heap.size 1 (bs (mri l kk).w.id) rfl HCY.out HL1.out ?c4 ?_)
            case c4 => first | omega | (simp; omega)
            intro v6 w6 ho6 hg6 _
            have HB6 := Lib.hid (grown_below HB5.out (fun q hq => (OwnZ.lt HO5.out q hq).1) _ hg6)
            have HT6 := Lib.hid ((HT5.out.alloc (.cells #[.string (bs (mri l kk).w.id)] 9)).grown hg6 HNE.out)
            have HP6 : Hid (OrdP w w6 w.heap.size w1.heap.size l (n + 1) v6) := by
              have e1 : (ordF (wl l) (n + 1)).map (·.id) = D ++ [(mri l kk).w.id] := by rw [HNF.out, List.map_append, HDD.out]; rfl
              refine ⟨?_, ?_, ?_, HB6.out⟩
              · rw [e1, List.map_append]; exact ho6
              · rw [HNF.out, List.length_append, HFL.out]; rfl
              · rw [e1]; exact HT6.out
            obtain ⟨a6, n6, c6, hv6, hn6⟩ : ∃ a n c, v6 = .slice a n c ∧ n = (D.map bs ++ [bs (mri l kk).w.id]).length := by obtain ⟨a, c, e, _⟩ := ho6.sl; exact ⟨_, _, _, e, rfl⟩
            have hn7 : n6 = n + 1 := by rw [hn6, List.length_append, List.length_map, HDL.out]; rfl
            subst hv6
            subst hn7
            clear ho6 hg6 c0 HOA HCY HNE hn6
            go_wp2_with fail
            go_roundw
            case rel => exact ⟨n + 1, by omega, ⟨_, _, rfl⟩, HP6⟩
            case measure => simp [lenOf]; omega
    · obtain rfl : n = l.length := by omega
      have HV : Hid (ordE (wl l) = 0) := ordE_full HJ.out (by rw [wl_len]; exact hp.out.len)
      have HO := Lib.hid hp.out.own.sl
      have HB := Lib.hid hp.out.bw
      clear hp
      go_wp2_with fail
      go_ret2
      exact ⟨.slice oa l.length oc, by rw [HV.out]; rfl, fun _ => HO.out, HB.out⟩
end Go.Proofs.YtlmfcigabojbmaaGreatDoor

/- Contract: until of shop's reference. -/
namespace Go.Proofs.YtlmfcigabojbmaaGreatDoor
open Go.RowKit

theorem inA_take {plan : List Ber} {k : Nat} (hk : k < plan.length) (a : List UInt8) (n : Int) : inA (plan.take (k + 1)) a n = if ((bri plan k).hull == a) = true then max (inA (plan.take k) a n) (bri plan k).b else inA (plan.take k) a n := by
  unfold inA; rw [take_bri hk, List.foldl_append]; rfl
theorem untR_take {plan : List Ber} {A : List (List UInt8)} {k : Nat} (hk : k < A.length) : untR plan (A.take (k + 1)) 0 = inA plan A[k] (untR plan (A.take k) 0) := by
  unfold untR; rw [List.take_succ_eq_append_getElem hk, List.foldl_append]; rfl
set_option maxRecDepth 100000 in
set_option maxHeartbeats 1000000 in
theorem until_any (av pv : Value) (A : List (List UInt8)) (plan : List Ber) (w : World) (ha : SZ w av (A.map bs)) (hp : SB w pv plan) : Calls Tryz.prog 19 #[av, pv] w (Ret w (.int .i64 (untilF A plan))) := by
  obtain ⟨aa, ac, rfl, a1, a2, a3⟩ := sz_form ha
  obtain ⟨pa, pc, rfl, p1, p2, p3⟩ := hp
  have A3 := Lib.hid a3; have P3 := Lib.hid p3
  clear ha a3 p3
  rw [List.length_map] at a1
  rw [List.length_map] at A3
  rw [List.length_map]
  have hm1 : A.length ≤ 9223372036854775807 := by unfold maxLen at a2; omega
  have hm2 : plan.length ≤ 9223372036854775807 := by unfold maxLen at p2; omega
  go_enter Tryz.func19, Tryz.ntmps19
  go_wp2_with fail
  go_loopw [5, 6] (fun t i wr => ∃ k : Nat, k ≤ A.length ∧ i = .int .i64 k ∧ t = .int .i64 (untR plan (A.take k) 0) ∧ Hid (Below w.heap.size w wr)) (fun _ i _ => A.length - (intOf i).toNat)
  case atStart => exact ⟨0, Nat.zero_le _, rfl, rfl, Lib.hid (Below.refl _ _)⟩
  case round =>
    obtain ⟨k, hk, rfl, rfl, hb⟩ := hrel
    by_cases hlt : k < A.length
    · obtain ⟨ab, ao, rfl, hc⟩ := A3.out k hlt
      have HCA := Lib.hid hc
      rw [zi_bs hlt] at HCA
      have HT := Lib.hid (untR_take (plan := plan) hlt)
      obtain ⟨n0, hn0⟩ : ∃ n0, untR plan (A.take k) 0 = n0 := ⟨_, rfl⟩
      rw [hn0] at HT ⊢
      clear hc hn0
      go_wp2_with fail
      go_loopw [5, 7] (fun t i wr => ∃ m : Nat, m ≤ plan.length ∧ i = .int .i64 m ∧ t = .int .i64 (inA (plan.take m) A[k] n0) ∧ Hid (Below w.heap.size w wr)) (fun _ i _ => plan.length - (intOf i).toNat)
      case atStart => exact ⟨0, Nat.zero_le _, rfl, rfl, hb⟩
      case round =>
        obtain ⟨m, hm, rfl, rfl, hb2⟩ := hrel
        by_cases hlt2 : m < plan.length
        · obtain ⟨pb, po, rfl, hc⟩ := P3.out m hlt2
          have HCP := Lib.hid (hc.keep hb2.out)
          clear hc
          have HIT := Lib.hid (inA_take hlt2 A[k] n0)
          obtain ⟨q, hq⟩ : ∃ q, inA (plan.take m) A[k] n0 = q := ⟨_, rfl⟩
          rw [hq] at HIT ⊢
          clear hq
          go_upto_region 8 with fail
          refine wp_region_ev skT skT_ok [berO pb (po + m * 8) (bri plan m), ⟨ab, ao + k, [.string (bs A[k])]⟩] (Below wr.heap.size wr) [] [(22, .ix m 0), (27, .ix k 1)] [(29, .bool ((bri plan m).hull == A[k]))] (by kernel_rfl) mixed (by kernel_rfl) ((Below.refl _ _).drew) (obs2 (fun v hv => rangeKeep (bAt_range HCP.out) hv) (fun v hv => rangeKeep (intR (cell_keep hb2.out HCA.out)) hv)) trivial ?_
          conv => whnf
          refine And.intro (under_of ⟨rfl, hlt2, rfl, rfl⟩) ?_
          conv => whnf
          refine And.intro (under_of ⟨rfl, hlt, rfl, by show ao + k = ao + k * 1; omega⟩) ?_
          conv => whnf
          intro f1
          conv => whnf
          refine And.intro ?_ ?_
          · refine congrArg Value.bool ?_
            rw [bs_eq]
          conv => whnf
          intro w5 h5
          have HB5 := Lib.hid (ext_trans hb2.out h5)
          have HC5 := Lib.hid (HCP.out.keep h5)
          clear h5 HCP
          obtain ⟨ex, hex⟩ : ∃ ex, ((bri plan m).hull == A[k]) = ex := ⟨_, rfl⟩
          rw [hex] at HIT ⊢
          clear hex
          cases ex
          · have HI2 : Hid (inA (plan.take (m + 1)) A[k] n0 = q) := by show _ = _; rw [HIT.out, if_neg (by decide)]
            clear HIT
            go_wp2_with fail
            go_roundw
            case rel => exact ⟨m + 1, by omega, by go_num, by rw [HI2.out], HB5⟩
            case measure => simp [intOf]; omega
          · have HI2 : Hid (inA (plan.take (m + 1)) A[k] n0 = max q (bri plan m).b) := by show _ = _; rw [HIT.out, if_pos rfl]
            have c7 := HC5.out.c7
            clear HIT
            go_wp2_with fail
            go_roundw
            case rel => exact ⟨m + 1, by omega, by go_num, by rw [HI2.out], HB5⟩
            case measure => simp [intOf]; omega
        · obtain rfl : m = plan.length := by omega
          have HI2 : Hid (inA (plan.take plan.length) A[k] n0 = untR plan (A.take (k + 1)) 0) := by show _ = _; rw [HT.out, List.take_length]
          rw [HI2.out]
          go_wp2_with fail
          go_roundw
          case rel => exact ⟨k + 1, by omega, by go_num, rfl, hb2⟩
          case measure => simp [intOf]; omega
    · obtain rfl : k = A.length := by omega
      have HV : Hid (untR plan (A.take A.length) 0 = untilF A plan) := by show _ = _; rw [List.take_length, untR_eq]
      rw [HV.out]
      go_wp2_with fail
      go_ret
      exact ⟨rfl, hb.out⟩
end Go.Proofs.YtlmfcigabojbmaaGreatDoor

/- Contract: Plan of shop's reference. -/
namespace Go.Proofs.YtlmfcigabojbmaaGreatDoor
open Go.RowKit

theorem build_span1 (a : Int) (w : World) : (Instr.build 46 #[(0, .int .i64 a)]).run Tryz.prog w = .ok (.agg #[.int .i64 a, .int .i64 0]) w := by go_simp
theorem build_ber1 (h : ByteArray) (len wid a b : Int) (w : World) : (Instr.build 50 #[(0, .string h), (3, .int .i64 len), (4, .int .i64 wid), (5, .agg #[.int .i64 a, .int .i64 b])]).run Tryz.prog w = .ok (.agg #[.string h, .string ⟨#[]⟩, .int .i64 0, .int .i64 0, .int .i64 len, .int .i64 wid, .int .i64 a, .int .i64 b]) w := by go_simp
theorem fitV_form (bays : List DBay) (l : List Ber) (x : Ber) (hours : Int) : ∃ y e, fitV bays l x hours = .tuple #[.agg (syCs y), .int .i64 e] ∧ ((e = 0 ∧ fitF bays l x hours = some y) ∨ (e = 18 ∧ fitF bays l x hours = none)) := by
  unfold fitV
  cases h : fitF bays l x hours with
  | some y => exact ⟨_, _, rfl, .inl ⟨rfl, rfl⟩⟩
  | none => exact ⟨_, _, rfl, .inr ⟨rfl, rfl⟩⟩
/-- a job is found at its place -/
theorem find_at {l : List MW} (hd : ∀ i j, i < (wl l).length → j < (wl l).length → (wri (wl l) i).id = (wri (wl l) j).id → i = j) {k : Nat} (hk : k < l.length) : findG (fun m => m.w.id == (mri l k).w.id) l = k := by
  refine findG_hit _ l k hk (fun j hj => ?_) (by show ((mri l k).w.id == (mri l k).w.id) = true; simp)
  show ((mri l j).w.id == (mri l k).w.id) = false
  rw [beq_eq_false_iff_ne]
  intro e
  have := hd j k (by rw [wl_len]; omega) (by rw [wl_len]; exact hk) (by rw [wri_ml (by omega), wri_ml hk]; exact e)
  omega
/-- the k-th job of the order lies somewhere in the list -/
theorem ord_place {l : List MW} {n k : Nat} (hk : k < (ordF (wl l) n).length) : ∃ j, j < l.length ∧ (mri l j).w = (ordF (wl l) n)[k] := by
  have hm := (ordW (wl l) n).mem _ (List.getElem_mem hk)
  unfold wl at hm
  obtain ⟨m, hm1, hm2⟩ := List.mem_map.1 hm
  obtain ⟨j, hj, rfl⟩ := mem_mri hm1
  exact ⟨j, hj, hm2⟩
theorem ask_wrk {w : Wrk} (h : rangeW w = true) {t : Int} (h1 : 0 ≤ t) (h2 : t ≤ 1048576) : askB (wrkBer w t) w.hours = true := by
  obtain ⟨a, b, c⟩ := rangeW_iff.1 h
  exact ask_iff.2 ⟨b, c, a, h1, h2⟩
theorem plan_hulls {bays : List DBay} {l : List MW} {n k : Nat} {out : List Ber} (h : StepP bays (ordF (wl l) n) k out) {N : Nat} (hs : ∀ m ∈ l, m.w.id.length ≤ N) : StrB out N := ⟨fun u hu => by
  have e := planW_ids h.w
  have : u.hull ∈ ((ordF (wl l) n).take k).map (·.id) := by rw [← e]; exact List.mem_map_of_mem hu
  obtain ⟨w, hw, hwe⟩ := List.mem_map.1 this
  have hm := (ordW (wl l) n).mem _ (List.mem_of_mem_take hw)
  unfold wl at hm
  obtain ⟨m, hm1, hm2⟩ := List.mem_map.1 hm
  rw [← hwe, ← hm2]; exact hs m hm1⟩
set_option maxRecDepth 100000 in
set_option maxHeartbeats 2000000 in
theorem rPlan_any (v bv : Value) (l : List MW) (bays : List DBay) (w : World) (h : SWk w v l) (ha : Aft w l) (hb : SD w bv bays) (hsd : StrD bays maxLen) (hs : ∀ m ∈ l, m.w.id.length ≤ 1100000) : Calls Tryz.prog 6 #[v, bv] w fun e w' => ∃ ov, e = .returned (.tuple #[ov, .int .i64 (planR (wl l) bays).1]) ∧ Below w.heap.size w w' := by
  have HS := Lib.hid h; have HA := Lib.hid ha; have HID := Lib.hid hs; have HBV := Lib.hid hb; have HSD := Lib.hid hsd
  obtain ⟨a, cap, rfl, h1, h2, h3⟩ := h
  obtain ⟨da, dc, rfl, d1, d2, d3⟩ := hb
  have H3 := Lib.hid h3
  clear h3 ha d3 hsd
  unfold maxLen at d2
  have hm : l.length ≤ 9223372036854775807 := by unfold maxLen at h2; omega
  go_enter Tryz.func6, Tryz.ntmps6
  go_wp2_with fail
  refine (Order42_any _ l w HS.out HA.out hs).mono ?_
  clear hs
  rintro e w1 ⟨ov, rfl, hov, h1'⟩
  have HB1 := Lib.hid h1'
  clear h1'
  by_cases ho : ordE (wl l) = 0
  rotate_left
  · have HV : Hid ((planR (wl l) bays).1 = ordE (wl l)) := by show _ = _; rw [planR_ord ho]
    have hne : (ordE (wl l) != 0) = true := bne_iff_ne.2 ho
    clear ho hov
    go_wp2_with fail
    go_ret2
    exact ⟨.slice none 0 0, by rw [HV.out]; rfl, HB1.out⟩
  rw [ho]
  have HO := Lib.hid ho
  have HOV := Lib.hid (hov ho)
  obtain ⟨hj, hol⟩ := ordE_jobs ho
  obtain ⟨q1, q2, q3⟩ := jobs_first hj
  have HD := Lib.hid (jobs_inj q1)
  have HJR := Lib.hid (fun u hu => job_right q1 (w := u) hu)
  rw [wl_len] at hol q2
  have hn : l.length ≤ 128 := by omega
  have HWM := Lib.hid (fun k (hk : k < (ordF (wl l) l.length).length) => ord_place hk)
  have HWE := Lib.hid (ordW (wl l) l.length).mem
  have HST := Lib.hid (fun h1 h3 => planR_stop (l := wl l) (bays := bays) ho h1 (by rw [wl_len]; exact h3))
  have HFU := Lib.hid (fun h1 p h3 => planR_full (l := wl l) (bays := bays) (p := p) ho h1 (by rw [wl_len]; exact h3))
  have HPB := Lib.hid (fun h1 => planR_bays (l := wl l) (bays := bays) ho h1)
  have HHU := Lib.hid (fun k out (h : StepP bays (ordF (wl l) l.length) k out) => plan_hulls h HID.out)
  obtain ⟨ws, hws⟩ : ∃ ws, ordF (wl l) l.length = ws := ⟨_, rfl⟩
  rw [hws] at HOV hol HWM HWE HST HFU HHU
  clear hws ho hov hj q1 q2 q3
  have hov := HOV.out
  obtain ⟨oa, oc, rfl, o1, o2, o3⟩ := sz_form hov
  have O3 := Lib.hid o3
  rw [List.length_map, List.length_map] at o1
  rw [List.length_map, List.length_map] at O3
  rw [List.length_map, List.length_map, hol]
  have HOL := Lib.hid hol
  clear hov o3 hol
  go_wp2_with fail
  refine (rCheck_any _ _ bays [] w1 (HBV.out.keep HB1.out) (SB_nil _).y HSD.out ⟨fun u hu => by cases hu⟩).mono ?_
  rintro e w2 ⟨rfl, h2'⟩
  have HB2 := Lib.hid (ext_trans HB1.out h2')
  have O4 : Hid (∀ i (hi : i < ws.length), ∃ b off, oa = some ⟨b, off, none⟩ ∧ w2.cell? ⟨b, off + i, none⟩ = some (.string (bs ws[i].id))) := fun i hi => by
    obtain ⟨b, off, e1, e2⟩ := O3.out i hi
    refine ⟨b, off, e1, ?_⟩
    rw [cell_keep h2' e2, zi_bs (by simpa using hi)]; simp
  clear h2' O3
  by_cases hp : planE bays [] = 0
  rotate_left
  · have HV : Hid ((planR (wl l) bays).1 = planE bays []) := by show _ = _; rw [HPB.out hp]
    have hne : (planE bays [] != 0) = true := bne_iff_ne.2 hp
    clear hp
    go_wp2_with fail
    go_ret2
    exact ⟨.slice none 0 0, by rw [HV.out]; rfl, HB2.out⟩
  rw [hp]
  have HP := Lib.hid hp
  clear hp HPB
  go_wp2_with fail
  go_loopw [9, 10] (fun o i wr => ∃ k : Nat, k ≤ l.length ∧ i = .int .i64 k ∧ (∃ oa n oc, o = .slice oa n oc) ∧ Hid (∃ out, StepP bays ws k out ∧ OwnB wr w2.heap.size o out) ∧ Hid (Below w2.heap.size w2 wr)) (fun _ i _ => l.length - (intOf i).toNat)
  case atStart => exact ⟨0, Nat.zero_le _, rfl, ⟨_, _, _, rfl⟩, Lib.hid ⟨[], StepP.zero ws HP.out, OwnB_nil _ _⟩, Lib.hid (Below.refl _ _)⟩
  case round =>
    obtain ⟨k, hk, rfl, ⟨pa, pn, pc, rfl⟩, hso, hbr⟩ := hrel
    obtain ⟨out, hst, hown⟩ := hso.out
    have HSTP := Lib.hid hst; have HOWN := Lib.hid hown
    clear hst hown hso
    by_cases hlt : k < l.length
    · have hlt' : k < ws.length := by rw [HOL.out]; exact hlt
      obtain ⟨ob, oo, rfl, hoc⟩ := O4.out k hlt'
      have hcc := cell_keep hbr.out hoc
      have HBW := Lib.hid (ext_trans HB2.out hbr.out)
      obtain ⟨j, hj, hjw⟩ := HWM.out k hlt'
      have HJW := Lib.hid hjw
      rw [← hjw] at hcc
      clear hoc hjw
      go_wp2_with fail
      clear hcc
      refine (r42find_any _ l (mri l j).w.id wr (HS.out.keep HBW.out)).mono ?_
      rintro e w3 ⟨rfl, h3⟩
      rw [find_at HD.out hj]
      have HB3 := Lib.hid (ext_trans HBW.out h3)
      have HB4 := Lib.hid (ext_trans hbr.out h3)
      have HOWN3 := Lib.hid (HOWN.out.below h3)
      obtain ⟨b, off, rfl, hc⟩ := H3.out j hj
      obtain ⟨c0, c1, c2, c3, c4⟩ := hc.keep HB3.out
      obtain ⟨va, vc, hav, _⟩ := HA.out.form hj
      have HAV := Lib.hid hav
      rw [hav] at c4
      obtain ⟨W4, HO4, HC4, HW, _⟩ := copyW w3 (mri l j) hav
      have hjl : (j : Int) < l.length := by omega
      have HB5 := Lib.hid (ext_trans HB4.out HC4.out)
      have HB6 := Lib.hid (ext_trans HB3.out HC4.out)
      have HOWN4 := Lib.hid (HOWN3.out.below HC4.out)
      clear hc hav h3
      go_upto_region 12 with fail
      rw [HW.out]
      clear c0 c1 c2 c3 c4 HW
      have HC5 : Hid (W4.rangeAt w3.heap.size 0 (wkS (mri l j) va (mri l j).w.after.length vc)) := wAt_slice (wkC HO4.out) HAV.out
      have HSA : Hid (SZ w (.slice va (mri l j).w.after.length vc) ((mri l j).w.after.map bs)) := by show SZ _ _ _; rw [← HAV.out]; exact HA.out _ (mri_mem hj)
      obtain ⟨T, hT⟩ : ∃ T, untilF (mri l j).w.after out = T := ⟨_, rfl⟩
      have hTr := HSTP.out.until_range (mri l j).w.after
      rw [hT] at hTr
      have HT := Lib.hid hT
      obtain ⟨y, e, hfv, hye⟩ := fitV_form bays out (wrkBer (mri l j).w T) (mri l j).w.hours
      have HFV := Lib.hid hfv; have HYE := Lib.hid hye
      have hjr := HJR.out (mri l j).w (by unfold wl; exact List.mem_map_of_mem (mri_mem hj))
      have HAK := Lib.hid (ask_wrk hjr.2 hTr.1 hTr.2)
      have HIB := Lib.hid hjr.1
      have HOK := Lib.hid ((planE_iff bays out).2 HSTP.out.ok)
      have HSB := Lib.hid (HHU.out k out HSTP.out)
      have HLE := Lib.hid HSTP.out.len
      clear hT hfv hye hjr hTr
      refine wp_region_as skT skT_ok [⟨w3.heap.size, 0, wkS (mri l j) va (mri l j).w.after.length vc⟩] [(11, 0)] [(54, .ret (.int .i64 T)), (55, .ret (.agg #[.int .i64 T, .int .i64 0])), (56, .ret (syV (wrkBer (mri l j).w T))), (59, .ret (.tuple #[.agg (syCs y), .int .i64 e]))] [(13, .int .i64 e)] 20 21 12 60 50 (syCs default) (syCs y) (by kernel_rfl) mixed (by kernel_rfl) rfl ⟨_, rfl, rfl, rfl⟩ ⟨_, rfl, rfl, rfl, ⟨20, .data⟩, by simp, rfl, rfl⟩ alloc_Berth info_Berth rfl (one_ber _) (obs1 (fun v hv => rangeKeep HC5.out hv)) ⟨rfl, trivial⟩ ?_
      conv => whnf
      refine And.intro (under_of fun v hv => (until_any _ _ (mri l j).w.after out v (HSA.out.keep (ext_trans HB6.out hv)) (HOWN4.out.below hv).s).mono fun e v' he => ⟨he.1.trans (by rw [HT.out]), he.2⟩) ?_
      conv => whnf
      refine And.intro (under_of fun w => build_span1 _ w) ?_
      conv => whnf
      refine And.intro (under_of fun w => build_ber1 _ _ _ _ _ w) ?_
      conv => whnf
      refine And.intro (under_of fun v hv => (rFit_any _ _ bays out (wrkBer (mri l j).w T) (mri l j).w.hours v (HBV.out.keep (ext_trans HB6.out hv)) (HOWN4.out.below hv).s HSD.out HSB.out (HID.out _ (mri_mem hj)) (by rw [HLE.out]; omega) HOK.out HIB.out HAK.out).mono fun e v' he => ⟨he.1.trans (by rw [HFV.out]), he.2⟩) ?_
      conv => whnf
      refine And.intro rfl ?_
      intro f2 nb
      conv => whnf
      refine And.intro rfl ?_
      conv => whnf
      intro w7 h7 _ hy7
      have HB7 := Lib.hid (ext_trans HB5.out h7)
      have HB8 := Lib.hid (ext_trans HB6.out h7)
      have HY7 := Lib.hid hy7
      have HOWN7 := Lib.hid (HOWN4.out.below h7)
      clear h7 hy7 HC5 HSA HFV HAK HIB HOK HSB HO4 HC4 HOWN4 HOWN3 HOWN HB3 HB4 HB5 HB6
      rcases HYE.out with ⟨rfl, hfit⟩ | ⟨rfl, hfit⟩
      rotate_left
      · have HV : Hid ((planR (wl l) bays).1 = 18) := by
          show _ = _
          rw [HST.out HP.out (plan_stop hlt' HSTP.out.f (by rw [← HJW.out, HT.out]; exact hfit))]
        clear hfit HYE
        go_wp2_with fail
        go_ret2
        exact ⟨.slice none 0 0, by rw [HV.out]; rfl, HB8.out⟩
      · have HS2 := Lib.hid (HSTP.out.more HP.out hlt' (by rw [HOL.out]; exact hn) (y := y) (by rw [← HJW.out, HT.out]; exact hfit))
        obtain ⟨p0, p1, p2, p3, p4, p5, p6, p7⟩ := syC HY7.out
        have hzw : w2.heap.size ≤ w7.heap.size := HB7.out.size
        have HOA := Lib.hid (HOWN7.out.alloc (.cells #[.string (bs y.hull), .string (bs y.dock), .int .i64 y.x, .int .i64 y.y, .int .i64 y.len, .int .i64 y.wid, .int .i64 y.a, .int .i64 y.b] 50))
        have HSA := Lib.hid (sB_one (bAt_new w7 y 50))
        unfold syCs at HSA
        have HL1 : Hid (out.length + ([y] : List Ber).length ≤ 1000000) := by show _ ≤ _; rw [HLE.out]; simp only [List.length_singleton]; omega
        clear hfit HYE
        go_wp2_with (at_builtin; refine wpList_app_B rfl (.tmp 65) (.tmp 67) rfl w2.heap.size _ out [y] rfl HOA.out ⟨w7.heap.size, 0, none⟩ 1 1 rfl HSA.out HL1.out ?c4 ?_)
        case c4 => first | omega | (simp; omega)
        intro v9 w9 ho9 hg9 _
        have HB9 := Lib.hid (grown_below HB7.out (fun q hq => (OwnB.lt HOWN7.out q hq).1) _ hg9)
        obtain ⟨a9, n9, c9, rfl⟩ : ∃ a n c, v9 = .slice a n c := by obtain ⟨a, c, e, _⟩ := ho9.s; exact ⟨_, _, _, e⟩
        have HO9 : Hid (∃ out, StepP bays ws (k + 1) out ∧ OwnB w9 w2.heap.size (.slice a9 n9 c9) out) := ⟨_, HS2.out, ho9⟩
        clear ho9 hg9 HOA HSA p0 p1 p2 p3 p4 p5 p6 p7
        go_wp2_with fail
        go_roundw
        case rel => exact ⟨k + 1, by omega, by go_num, ⟨_, _, _, rfl⟩, HO9, HB9⟩
        case measure => simp [intOf]; omega
    · obtain rfl : k = l.length := by omega
      have HV : Hid ((planR (wl l) bays).1 = 0) := by
        show _ = _
        rw [HFU.out HP.out out (by have := HSTP.out.f; rw [List.take_of_length_le (by rw [HOL.out]; exact Nat.le_refl _)] at this; exact this)]
      have HBW := Lib.hid (ext_trans HB2.out hbr.out)
      go_wp2_with fail
      go_ret2
      exact ⟨.slice pa pn pc, by rw [HV.out]; rfl, HBW.out⟩
end Go.Proofs.YtlmfcigabojbmaaGreatDoor
