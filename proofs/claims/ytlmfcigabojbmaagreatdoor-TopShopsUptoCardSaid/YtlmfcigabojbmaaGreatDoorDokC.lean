/- Contracts: find of bay; results that lie in cells. -/
import Derived.Test.YtlmfcigabojbmaaGreatDoorDokF
import Derived.Test.YtlmfcigabojbmaaGreatDoorQas
import Derived.Laws.Rows
import Derived.Laws.Tables
set_option linter.unusedSimpArgs false
set_option linter.unusedVariables false
namespace Go.Proofs.YtlmfcigabojbmaaGreatDoor
open Go.RowKit

theorem results_two {fn : Func} {p q : Tmp} {ty : TypeId} (h : fn.results = #[.cell p ty, .tmp q]) {tmps : Array Value} {w : World} {g : Nat} {cs : Array Value} {v : Value}
    (hp : tmps.getD p undef = .pointer (some ⟨g, 0, none⟩)) (hq : tmps.getD q undef = v) (hl : (loadVar ty ⟨g, 0, none⟩).run Tryz.prog w = .ok (.agg cs) w) :
    (results fn tmps).run Tryz.prog w = .ok (.tuple #[.agg cs, v]) w := by
  have hp' : tmps[p]?.getD undef = .pointer (some ⟨g, 0, none⟩) := by simpa using hp
  have hq' : tmps[q]?.getD undef = v := by simpa using hq
  simp [results, h, hp', hq', asAddr, hl]
theorem info_Bay : (Tryz.prog.info? 25).map (·.size) = some 3 := by kernel_rfl
theorem info_Berth : (Tryz.prog.info? 50).map (·.size) = some 8 := by kernel_rfl
def dyA (x : DBay) : Array Value := #[.string (bs x.name), .int .i64 x.len, .int .i64 x.wid]
theorem alloc_Bay (w : World) : (Instr.alloc 25 true (.tuple #[])).run Tryz.prog w = .ok (.pointer (some ⟨w.heap.size, 0, none⟩)) (w.alloc (.cells (dyA default) 25)) := by
  have e : dyA default = #[.string ⟨#[]⟩, .int .i64 0, .int .i64 0] := rfl
  rw [e]; go_simp
theorem alloc_Berth (w : World) : (Instr.alloc 50 true (.tuple #[])).run Tryz.prog w = .ok (.pointer (some ⟨w.heap.size, 0, none⟩)) (w.alloc (.cells (syCs default) 50)) := by
  have e : syCs default = #[.string ⟨#[]⟩, .string ⟨#[]⟩, .int .i64 0, .int .i64 0, .int .i64 0, .int .i64 0, .int .i64 0, .int .i64 0] := rfl
  rw [e]; go_simp
theorem load_Bay {w : World} {g : Nat} {x : DBay} {e : TypeId} (h : ObjAt w g (dyA x) e) : (loadVar 25 ⟨g, 0, none⟩).run Tryz.prog w = .ok (.agg (dyA x)) w := run_loadVar_row (P := Tryz.prog) w g e 25 (dyA x) (0, 0) _ h Tryz.underlying25 rfl info_Bay
theorem load_Ber {w : World} {g : Nat} {x : Ber} {e : TypeId} (h : ObjAt w g (syCs x) e) : (loadVar 50 ⟨g, 0, none⟩).run Tryz.prog w = .ok (.agg (syCs x)) w := run_loadVar_row (P := Tryz.prog) w g e 50 (syCs x) (0, 0) _ h Tryz.underlying50 rfl info_Berth
theorem one_bay (x : DBay) : (dyA x).all (·.oneCell') = true := by simp [dyA, Value.oneCell']
theorem one_ber (x : Ber) : (syCs x).all (·.oneCell') = true := by simp [syCs, Value.oneCell']

theorem findD_name (x : DBay) (y : List UInt8) (b : Nat) (w : World) (h : w.cell? ⟨b, 0, none⟩ = some (.string (bs y))) :
    Calls Tryz.prog 46 #[dyV x, .pointer (some ⟨b, 0, none⟩)] w (Ret w (.bool (x.name == y))) := by
  have HE := Lib.hid (bs_eq x.name y)
  have hb : b < w.heap.size := World.block_lt_of_cell? w _ h
  unfold dyV
  go_enter Tryz.func46, Tryz.ntmps46
  go_wp2_with fail
  go_ret
  exact ⟨ret_bool HE.out, (Below.refl _ _).alloc (Nat.le_refl _) _⟩
theorem enter_findD : ∀ args w, (callFunc 46 args).run Tryz.prog w = .ok (.enter 46 args) w := enters_of Tryz.func46 (by kernel_rfl) rfl
/-- the bay with a name, and whether there is one -/
def fdV (l : List DBay) (name : List UInt8) : Value := .tuple #[.agg (dyA ((findD l name).getD default)), .bool (findD l name).isSome]
theorem findG_findD (l : List DBay) (name : List UInt8) : (findG (fun b => b.name == name) l < 0 ∧ findD l name = none) ∨ ∃ k : Nat, findG (fun b => b.name == name) l = k ∧ k < l.length ∧ findD l name = some (byi l k) := by
  unfold findG findD
  cases h : l.findIdx? (fun b => b.name == name) with
  | none =>
    refine .inl ⟨by decide, ?_⟩
    rw [List.findIdx?_eq_none_iff] at h
    rw [List.find?_eq_none]
    intro x hx; rw [h x hx]; decide
  | some i =>
    rw [List.findIdx?_eq_some_iff_getElem] at h
    obtain ⟨h1, h2, h3⟩ := h
    refine .inr ⟨i, rfl, h1, ?_⟩
    rw [byi_lt h1, List.find?_eq_some_iff_getElem]
    exact ⟨h2, i, h1, rfl, fun j hj => by have := h3 j hj; simpa using this⟩
set_option maxRecDepth 100000 in
set_option maxHeartbeats 800000 in
theorem find_any (v : Value) (l : List DBay) (name : List UInt8) (w : World) (h : SD w v l) : Calls Tryz.prog 22 #[v, .string (bs name)] w (Ret w (fdV l name)) := by
  have HI := Lib.hid (fun (w1 : World) (b : Nat) (hb : Below w.heap.size w w1) (h1 : w1.cell? ⟨b, 0, none⟩ = some (.string (bs name))) =>
    indexFunc_D (.func (.func 46) #[] #[.pointer (some ⟨b, 0, none⟩)]) v (fun _ => True) (fun m => m.name == name) l w1 (h.keep hb) (fun _ _ => trivial) ⟨_, _, rfl, enter_findD, fun y w2 _ hb2 => findD_name y name b w2 (cell_keep hb2 h1)⟩)
  obtain ⟨a, cap, rfl, h1, h2, h3⟩ := h
  have H3 := Lib.hid h3; clear h3
  have hm : l.length ≤ 9223372036854775807 := by unfold maxLen at h2; omega
  go_enter Tryz.func22, Tryz.ntmps22
  go_wp2_with fail
  refine (HI.out _ _ (((Below.refl _ _).alloc (Nat.le_refl _) _).alloc (by simp) _) (by simp)).mono ?_
  rintro e w1 ⟨rfl, hb⟩
  have HO := Lib.hid ((obj_two w #[.string (bs name)] (dyA default) 9 25).2.keep hb)
  have HB := Lib.hid (ext_trans (((Below.refl _ _).alloc (Nat.le_refl _) _).alloc (by simp) _) hb)
  clear hb
  rcases findG_findD l name with ⟨hg, hd⟩ | ⟨k, hg, hk, hd⟩
  · have HV : Hid (fdV l name = .tuple #[.agg (dyA default), .bool false]) := by show _ = _; unfold fdV; rw [hd]; rfl
    clear hd
    generalize findG (fun m => m.name == name) l = z at *
    go_wp2_with (refine wpList_store_row (o := ⟨none, .store _ _ _, _, _, _, _⟩) rfl 25 (.tmp 4) (.tmp 12) rfl (w.heap.size + 1) (dyA default) rfl rfl 25 _ HO.out info_Bay rfl (one_bay _) ?_)
    refine bodyPost_ret (v := .tuple #[.agg (dyA default), .bool false]) (results_two Tryz.results22 rfl rfl (load_Bay (setRow_heap _ _ _ _ _ _ HO.out))) rfl ⟨by rw [HV.out], below_setRow HB.out (by omega) _⟩
  · have HV : Hid (fdV l name = .tuple #[.agg (dyA (byi l k)), .bool true]) := by show _ = _; unfold fdV; rw [hd]; rfl
    clear hd
    obtain ⟨b, off, rfl, hc⟩ := H3.out k hk
    have hc' := hc.keep HB.out
    obtain ⟨c0, c1, c2⟩ := hc'
    rw [hg]
    have g1 : ¬ (k : Int) < 0 := by omega
    have g2 : (k : Int) < l.length := by omega
    clear hc hg
    go_wp2_with (refine wpList_store_row (o := ⟨none, .store _ _ _, _, _, _, _⟩) rfl 25 (.tmp 4) (.tmp 16) rfl (w.heap.size + 1) (dyA (byi l k)) rfl rfl 25 _ HO.out info_Bay rfl (one_bay _) ?_)
    refine bodyPost_ret (v := .tuple #[.agg (dyA (byi l k)), .bool true]) (results_two Tryz.results22 rfl rfl (load_Bay (setRow_heap _ _ _ _ _ _ HO.out))) rfl ⟨by rw [HV.out], below_setRow HB.out (by omega) _⟩
end Go.Proofs.YtlmfcigabojbmaaGreatDoor
