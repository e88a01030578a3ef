/- Contract: awake of certify's laws. -/
import Derived.Test.YtehbnckdllbmgaaGreatDoorCerQ
import Derived.Test.YtehbnckdllbmgaaGreatDoorCerK
import Derived.Test.YtehbnckdllbmgaaGreatDoorCerP
set_option linter.unusedSimpArgs false
set_option linter.unusedVariables false
namespace Go.Proofs.YtehbnckdllbmgaaGreatDoor
open Go.RowKit

def P0 : List (List Int) := [[3, 2], [1, 4], [2, 2]]
def C0 : List Cut := [([0], 1), ([1], 1), ([2], 1)]
def X0 : List Cut := [([0, 2], 1), ([], 3)]
def S0 : List UInt8 := [48, 32, 50, 58, 32, 49, 10, 58, 32, 51, 10]
theorem e1 : makeE P0 100 = 0 := by kernel_rfl
theorem e2 : makeL P0 100 = [1, 0, 2] := by kernel_rfl
theorem e3 : makeC P0 100 = C0 := by kernel_rfl
theorem e4 : makeE P0 1 = 29 := by kernel_rfl
theorem e5 : parseT S0 = (X0, 0, 0) := by kernel_rfl
theorem e6 : parseT [48, 58, 32, 49] = ([], 5, 0) := by kernel_rfl
theorem e7 : textT X0 = S0 := by simp [textT, X0, lineT, lineB, joinW, Lib.itoa, Lib.decDigits_one, S0]
theorem e8 : checkV P0 9 C0 = 0 := by kernel_rfl
theorem e9 : checkV P0 10 C0 = 13 := by kernel_rfl
theorem e10 : checkV P0 9 (C0.take 2) = 34 := by kernel_rfl
theorem e11 : coversV 2 [[1], [0]] = true := by kernel_rfl
theorem e12 : coversV 2 [[0], [0, 1]] = false := by kernel_rfl
theorem e13 : coversV 0 [[]] = true := by kernel_rfl

/-- the elements of a literal slice -/
theorem SI_lit (w : World) (xs : List Int) (e : TypeId) (hl : xs.length ≤ 1000) : SI (w.alloc (.cells (xs.map (Value.int .i64)).toArray e)) (.slice (some ⟨w.heap.size, 0, none⟩) xs.length xs.length) xs := by
  refine ⟨_, _, rfl, Nat.le_refl _, by unfold maxLen; omega, fun i hi => ⟨w.heap.size, 0, rfl, ?_⟩⟩
  simp [gi_lt hi, hi]
/-- a literal slice of rows -/
theorem SS_lit (w : World) (vs : List Value) (rs : List (List Int)) (e : TypeId) (hl : vs.length = rs.length) (hm : rs.length ≤ 1000) (h : ∀ i, i < rs.length → SI w (vs.getD i undef) (ri rs i)) : SS (w.alloc (.cells vs.toArray e)) (.slice (some ⟨w.heap.size, 0, none⟩) rs.length rs.length) rs := by
  refine ⟨fun i => vs.getD i undef, ⟨_, _, rfl, Nat.le_refl _, by unfold maxLen; omega, fun i hi => ⟨w.heap.size, 0, rfl, ?_⟩⟩, fun i hi => (h i hi).alloc _⟩
  have hi' : i < vs.length := by omega
  simp [hi']
/-- a literal slice of cuts -/
theorem SC_lit (w : World) (vs : List Value) (L : List Cut) (e : TypeId) (hl : vs.length = L.length) (hm : L.length ≤ 1000) (h : ∀ i, i < L.length → SI w (vs.getD i undef) (ci L i).1) : SC (w.alloc (.cells ((vs.zip L).flatMap pcCells).toArray e)) (.slice (some ⟨w.heap.size, 0, none⟩) L.length L.length) L := by
  refine ⟨_, _, rfl, Nat.le_refl _, by unfold maxLen; omega, fun i hi => ⟨w.heap.size, 0, vs.getD i undef, rfl, ?_⟩⟩
  have hz : (vs.zip L).length = L.length := by simp; omega
  have hi2 : i < (vs.zip L).length := by omega
  have hi' : i < vs.length := by omega
  have key : ∀ j, j < 2 → (w.alloc (.cells ((vs.zip L).flatMap pcCells).toArray e)).cell? ⟨w.heap.size, 0 + i * 2 + j, none⟩ = (pcCells (vs.zip L)[i])[j]? := fun j hj => by
    have := flat_get pcCells pcCells_len (vs.zip L) i j hi2 hj
    rw [← this]
    simp
  have e1 : (vs.zip L)[i] = (vs.getD i undef, ci L i) := by rw [List.getElem_zip, ci_lt hi]; simp [hi']
  rw [e1] at key
  exact ⟨key 0 (by omega), key 1 (by omega), (h i hi).alloc _⟩
theorem below_alloc {a b : World} (h : Below a.heap.size a b) (o : Obj) : Below a.heap.size a (b.alloc o) := h.alloc h.size o

set_option maxHeartbeats 1000000 in
theorem three_any (w : World) : Calls Tryz.prog 36 #[] w fun e w' => ∃ v u, e = .returned (.tuple #[v, u]) ∧ SS w' v P0 ∧ SC w' u C0 ∧ Below w.heap.size w w' := by
  go_enter Tryz.func36, Tryz.ntmps36
  go_wp2_with fail
  obtain ⟨w1, h1⟩ : ∃ x, x = w.alloc (.cells #[.int .i64 3, .int .i64 2] 3) := ⟨_, rfl⟩
  obtain ⟨w2, h2⟩ : ∃ x, x = w1.alloc (.cells #[.int .i64 1, .int .i64 4] 3) := ⟨_, rfl⟩
  obtain ⟨w3, h3⟩ : ∃ x, x = w2.alloc (.cells #[.int .i64 2, .int .i64 2] 3) := ⟨_, rfl⟩
  obtain ⟨w4, h4⟩ : ∃ x, x = w3.alloc (.cells #[.slice (some ⟨w.heap.size, 0, none⟩) 2 2, .slice (some ⟨w1.heap.size, 0, none⟩) 2 2, .slice (some ⟨w2.heap.size, 0, none⟩) 2 2] 24) := ⟨_, rfl⟩
  obtain ⟨w5, h5⟩ : ∃ x, x = w4.alloc (.cells #[.int .i64 0] 3) := ⟨_, rfl⟩
  obtain ⟨w6, h6⟩ : ∃ x, x = w5.alloc (.cells #[.int .i64 1] 3) := ⟨_, rfl⟩
  obtain ⟨w7, h7⟩ : ∃ x, x = w6.alloc (.cells #[.int .i64 2] 3) := ⟨_, rfl⟩
  obtain ⟨w8, h8⟩ : ∃ x, x = w7.alloc (.cells #[.slice (some ⟨w4.heap.size, 0, none⟩) 1 1, .int .i64 1, .slice (some ⟨w5.heap.size, 0, none⟩) 1 1, .int .i64 1, .slice (some ⟨w6.heap.size, 0, none⟩) 1 1, .int .i64 1] 54) := ⟨_, rfl⟩
  have z1 : w1.heap.size = w.heap.size + 1 := by rw [h1]; simp
  have z2 : w2.heap.size = w.heap.size + 1 + 1 := by rw [h2]; simp [z1]
  have z3 : w3.heap.size = w.heap.size + 1 + 1 + 1 := by rw [h3]; simp [z2]
  have z4 : w4.heap.size = w.heap.size + 1 + 1 + 1 + 1 := by rw [h4]; simp [z3]
  have z5 : w5.heap.size = w.heap.size + 1 + 1 + 1 + 1 + 1 := by rw [h5]; simp [z4]
  have z6 : w6.heap.size = w.heap.size + 1 + 1 + 1 + 1 + 1 + 1 := by rw [h6]; simp [z5]
  have z7 : w7.heap.size = w.heap.size + 1 + 1 + 1 + 1 + 1 + 1 + 1 := by rw [h7]; simp [z6]
  have b1 : Below w.heap.size w w1 := by rw [h1]; exact below_alloc (Below.refl _ _) _
  have c2 : Below w1.heap.size w1 w2 := by rw [h2]; exact below_alloc (Below.refl _ _) _
  have c3 : Below w2.heap.size w2 w3 := by rw [h3]; exact below_alloc (Below.refl _ _) _
  have c4 : Below w3.heap.size w3 w4 := by rw [h4]; exact below_alloc (Below.refl _ _) _
  have c5 : Below w4.heap.size w4 w5 := by rw [h5]; exact below_alloc (Below.refl _ _) _
  have c6 : Below w5.heap.size w5 w6 := by rw [h6]; exact below_alloc (Below.refl _ _) _
  have c7 : Below w6.heap.size w6 w7 := by rw [h7]; exact below_alloc (Below.refl _ _) _
  have c8 : Below w7.heap.size w7 w8 := by rw [h8]; exact below_alloc (Below.refl _ _) _
  have s1 : SI w1 (.slice (some ⟨w.heap.size, 0, none⟩) 2 2) [3, 2] := by rw [h1]; exact SI_lit w [3, 2] _ (by simp)
  have s2 : SI w2 (.slice (some ⟨w1.heap.size, 0, none⟩) 2 2) [1, 4] := by rw [h2]; exact SI_lit w1 [1, 4] _ (by simp)
  have s3 : SI w3 (.slice (some ⟨w2.heap.size, 0, none⟩) 2 2) [2, 2] := by rw [h3]; exact SI_lit w2 [2, 2] _ (by simp)
  have s4 : SS w4 (.slice (some ⟨w3.heap.size, 0, none⟩) 3 3) P0 := by
    rw [h4]
    refine SS_lit w3 [.slice (some ⟨w.heap.size, 0, none⟩) 2 2, .slice (some ⟨w1.heap.size, 0, none⟩) 2 2, .slice (some ⟨w2.heap.size, 0, none⟩) 2 2] P0 _ rfl (by decide) fun i hi => ?_
    have hi : i < 3 := hi
    have : i = 0 ∨ i = 1 ∨ i = 2 := by omega
    rcases this with rfl | rfl | rfl
    · exact (s1.keep c2).keep c3
    · exact s2.keep c3
    · exact s3
  have s5 : SI w5 (.slice (some ⟨w4.heap.size, 0, none⟩) 1 1) [0] := by rw [h5]; exact SI_lit w4 [0] _ (by simp)
  have s6 : SI w6 (.slice (some ⟨w5.heap.size, 0, none⟩) 1 1) [1] := by rw [h6]; exact SI_lit w5 [1] _ (by simp)
  have s7 : SI w7 (.slice (some ⟨w6.heap.size, 0, none⟩) 1 1) [2] := by rw [h7]; exact SI_lit w6 [2] _ (by simp)
  have s8 : SC w8 (.slice (some ⟨w7.heap.size, 0, none⟩) 3 3) C0 := by
    rw [h8]
    refine SC_lit w7 [.slice (some ⟨w4.heap.size, 0, none⟩) 1 1, .slice (some ⟨w5.heap.size, 0, none⟩) 1 1, .slice (some ⟨w6.heap.size, 0, none⟩) 1 1] C0 _ rfl (by decide) fun i hi => ?_
    have hi : i < 3 := hi
    have : i = 0 ∨ i = 1 ∨ i = 2 := by omega
    rcases this with rfl | rfl | rfl
    · exact (s5.keep c6).keep c7
    · exact s6.keep c7
    · exact s7
  have bb : Below w.heap.size w w8 := ext_trans b1 (ext_trans c2 (ext_trans c3 (ext_trans c4 (ext_trans c5 (ext_trans c6 (ext_trans c7 c8))))))
  have s9 : SS w8 (.slice (some ⟨w3.heap.size, 0, none⟩) 3 3) P0 := (((s4.keep c5).keep c6).keep c7).keep c8
  rw [z3] at s9
  rw [z7] at s8
  rw [z1, z2] at h4
  rw [z4, z5, z6] at h8
  subst h1 h2 h3 h4 h5 h6 h7 h8
  refine bodyPost_ret (v := .tuple #[.slice (some ⟨w.heap.size + 1 + 1 + 1, 0, none⟩) 3 3, .slice (some ⟨w.heap.size + 1 + 1 + 1 + 1 + 1 + 1 + 1, 0, none⟩) 3 3]) (by simp [results, Tryz.results36, go_sem]) rfl ?_
  exact ⟨_, _, rfl, s9, s8, bb⟩

set_option maxRecDepth 100000 in
set_option maxHeartbeats 2000000 in
theorem awake_any (w : World) (hV : VarsC w) : Calls Tryz.prog 14 #[] w (Ret w (.bool true)) := by
  have HV := Lib.hid hV; clear hV
  go_enter Tryz.func14, Tryz.ntmps14
  go_wp2_with fail
  refine (three_any w).mono ?_
  rintro e w1 ⟨v, u, rfl, hp, hc, hb1⟩
  obtain ⟨pa, pc, rfl, _, _⟩ : ∃ a c, v = .slice a P0.length c ∧ P0.length ≤ c ∧ c ≤ maxLen := by obtain ⟨vs, ⟨a, c, h1, h2, h3, _⟩, _⟩ := hp; exact ⟨a, c, h1, h2, h3⟩
  obtain ⟨ca, cc, rfl, hcc, _⟩ : ∃ a c, u = .slice a C0.length c ∧ C0.length ≤ c ∧ c ≤ maxLen := by obtain ⟨a, c, h1, h2, h3, _⟩ := hc; exact ⟨a, c, h1, h2, h3⟩
  rw [show P0.length = 3 from rfl] at hp
  rw [show C0.length = 3 from rfl] at hc hcc
  have HP := Lib.hid hp; have HC := Lib.hid hc; have HB1 := Lib.hid hb1
  rw [show P0.length = 3 from rfl, show C0.length = 3 from rfl]
  clear hp hc hb1
  go_wp2_with fail
  refine (Make_any _ P0 100 w1 HP.out (by omega)).mono ?_
  rintro e w2 ⟨vo, vl, rfl, ho, hl, hb2⟩
  rw [e2] at ho
  rw [e3] at hl
  rw [e1]
  obtain ⟨oa, oc, rfl, _, _⟩ := ho.sl
  obtain ⟨la, lc, rfl, _, _⟩ : ∃ a c, vl = .slice a C0.length c ∧ C0.length ≤ c ∧ c ≤ maxLen := by obtain ⟨a, c, h1, h2, h3, _⟩ := hl; exact ⟨a, c, h1, h2, h3⟩
  rw [show C0.length = 3 from rfl] at hl ⊢
  have HO := Lib.hid ho; have HL := Lib.hid hl; have HB2 := Lib.hid (ext_trans HB1.out hb2)
  have HK2 := Lib.hid hb2
  clear ho hl hb2
  go_wp2_with fail
  refine (Make_any _ P0 1 w2 (HP.out.keep HK2.out) (by omega)).mono ?_
  rintro e w3 ⟨vo3, vl3, rfl, ho3, hl3, hb3⟩
  rw [e4]
  obtain ⟨_, _, rfl, _, _⟩ := ho3.sl
  obtain ⟨_, _, rfl, _⟩ := hl3
  have HB3 := Lib.hid (ext_trans HB2.out hb3); have HK3 := Lib.hid hb3
  clear ho3 hb3
  go_wp2_with fail
  refine (Parse_any (bs S0) w3 (by decide) (HV.out.keep HB3.out)).mono ?_
  rintro e w4 ⟨vx, rfl, hx, hb4⟩
  rw [bs_list, e5] at hx ⊢
  dsimp only at hx ⊢
  obtain ⟨xa, xc, rfl, _, _⟩ : ∃ a c, vx = .slice a X0.length c ∧ X0.length ≤ c ∧ c ≤ maxLen := by obtain ⟨a, c, h1, h2, h3, _⟩ := hx; exact ⟨a, c, h1, h2, h3⟩
  rw [show X0.length = 2 from rfl] at hx ⊢
  have HX := Lib.hid hx; have HB4 := Lib.hid (ext_trans HB3.out hb4); have HK4 := Lib.hid hb4
  clear hx hb4
  go_wp2_with fail
  refine (Parse_any (bs [48, 58, 32, 49]) w4 (by decide) (HV.out.keep HB4.out)).mono ?_
  rintro e w5 ⟨vy, rfl, hy, hb5⟩
  rw [bs_list, e6] at hy ⊢
  dsimp only at hy ⊢
  obtain ⟨_, _, rfl, _⟩ := hy
  have HB5 := Lib.hid (ext_trans HB4.out hb5)
  have HK25 := Lib.hid (ext_trans (ext_trans HK3.out HK4.out) hb5)
  have HX5 := Lib.hid (HX.out.keep hb5)
  clear hb5
  go_wp2_with fail
  have hbl := below_alloc (Below.refl w5.heap.size w5) (.cells #[.int .i64 1, .int .i64 0, .int .i64 2] 3)
  have HBL := Lib.hid hbl
  refine (same38_any _ _ [1, 0, 2] [1, 0, 2] _ ((HO.out.keep HK25.out).keep hbl) (SI_lit w5 [1, 0, 2] 3 (by simp))).mono ?_
  rintro e w6 ⟨rfl, m6, rfl⟩
  rw [show decide (([1, 0, 2] : List Int) = [1, 0, 2]) = true from rfl]
  have hb6 := below_drewN' hbl m6
  have HB6 := Lib.hid (ext_trans HB5.out hb6)
  have HX6 := Lib.hid (HX5.out.keep hb6)
  have HL6 := Lib.hid ((HL.out.keep HK25.out).keep hb6)
  have HK16 := Lib.hid (ext_trans (ext_trans HK2.out HK25.out) hb6)
  obtain ⟨w6, hw6⟩ : ∃ x, x = (w5.alloc (.cells #[.int .i64 1, .int .i64 0, .int .i64 2] 3)).drewN m6 := ⟨_, rfl⟩
  rw [← hw6] at HB6 HX6 HL6 HK16 ⊢
  have HW6 := Lib.hid hw6
  clear hbl hb6 hw6
  go_wp2_with fail
  refine (Same_any _ _ C0 C0 w6 HL6.out (HC.out.keep HK16.out)).mono ?_
  rintro e w7 ⟨rfl, m7, rfl⟩
  rw [show decide (C0 = C0) = true from decide_eq_true rfl]
  go_wp2_with fail
  refine (Text_any _ X0 _ (HX6.out.drewN m7) (fun c hc => ?_) (fun c hc => ?_) (by rw [e7]; decide) (HV.out.keep (below_drewN' HB6.out m7))).mono ?_
  · simp only [X0, List.mem_cons, List.not_mem_nil, or_false] at hc
    rcases hc with rfl | rfl
    · exact ⟨⟨by decide, by decide⟩, fun x hx => by simp at hx; rcases hx with rfl | rfl <;> exact ⟨by decide, by decide⟩⟩
    · exact ⟨⟨by decide, by decide⟩, fun x hx => by cases hx⟩
  · simp only [X0, List.mem_cons, List.not_mem_nil, or_false] at hc
    rcases hc with rfl | rfl <;> decide
  rintro e w8 ⟨rfl, hb8⟩
  rw [e7, show bs S0 = (⟨#[48, 32, 50, 58, 32, 49, 10, 58, 32, 51, 10]⟩ : ByteArray) from rfl]
  have HB8 := Lib.hid (HB6.out.trans (((below_drewN' (Below.refl _ w6) m7).trans hb8).mono HB6.out.size))
  have HK18 := Lib.hid (HK16.out.trans (((below_drewN' (Below.refl _ w6) m7).trans hb8).mono HK16.out.size))
  clear hb8
  go_wp2_with fail
  refine (Check_any _ _ P0 9 C0 w8 (HP.out.keep HK18.out) (HC.out.keep HK18.out) (by decide)).mono ?_
  rintro e w9 ⟨rfl, hb9⟩
  rw [e8]
  have HB9 := Lib.hid (HB8.out.trans (hb9.mono HB8.out.size)); have HK19 := Lib.hid (HK18.out.trans (hb9.mono HK18.out.size))
  clear hb9
  go_wp2_with fail
  refine (Check_any _ _ P0 10 C0 w9 (HP.out.keep HK19.out) (HC.out.keep HK19.out) (by decide)).mono ?_
  rintro e w10 ⟨rfl, hb10⟩
  rw [e9]
  have HB10 := Lib.hid (HB9.out.trans (hb10.mono HB9.out.size)); have HK110 := Lib.hid (HK19.out.trans (hb10.mono HK19.out.size))
  clear hb10
  go_wp2_with fail
  refine (Check_any _ _ P0 9 (C0.take 2) w10 (HP.out.keep HK110.out) ((HC.out.keep HK110.out).take 2 (by decide)) (by decide)).mono ?_
  rintro e w11 ⟨rfl, hb11⟩
  rw [e10]
  have HB11 := Lib.hid (HB10.out.trans (hb11.mono HB10.out.size))
  clear hb11
  go_wp2_with fail
  obtain ⟨pa, pha⟩ : ∃ x, x = w11.alloc (.cells #[.int .i64 1] 3) := ⟨_, rfl⟩
  obtain ⟨pb, phb⟩ : ∃ x, x = pa.alloc (.cells #[.int .i64 0] 3) := ⟨_, rfl⟩
  have pz : pa.heap.size = w11.heap.size + 1 := by rw [pha]; simp
  have pz2 : pb.heap.size = w11.heap.size + 1 + 1 := by rw [phb]; simp [pz]
  have ps1 : SI pa (.slice (some ⟨w11.heap.size, 0, none⟩) 1 1) [1] := by rw [pha]; exact SI_lit _ [1] _ (by simp)
  have ps2 : SI pb (.slice (some ⟨w11.heap.size + 1, 0, none⟩) 1 1) [0] := by rw [phb, ← pz]; exact SI_lit _ [0] _ (by simp)
  have pc2 : Below pa.heap.size pa pb := by rw [phb]; exact below_alloc (Below.refl _ _) _
  have pc1 : Below w11.heap.size w11 pa := by rw [pha]; exact below_alloc (Below.refl _ _) _
  have ps3 : SS (pb.alloc (.cells #[.slice (some ⟨w11.heap.size, 0, none⟩) 1 1, .slice (some ⟨w11.heap.size + 1, 0, none⟩) 1 1] 24)) (.slice (some ⟨pb.heap.size, 0, none⟩) 2 2) [[1], [0]] := by
    refine SS_lit pb [.slice (some ⟨w11.heap.size, 0, none⟩) 1 1, .slice (some ⟨w11.heap.size + 1, 0, none⟩) 1 1] [[1], [0]] _ rfl (by decide) fun i hi => ?_
    have hi : i < 2 := hi
    have : i = 0 ∨ i = 1 := by omega
    rcases this with rfl | rfl
    · exact ps1.keep pc2
    · exact ps2
  have pS := Lib.hid ps3
  have pB := Lib.hid (below_alloc (ext_trans pc1 pc2) (.cells #[.slice (some ⟨w11.heap.size, 0, none⟩) 1 1, .slice (some ⟨w11.heap.size + 1, 0, none⟩) 1 1] 24))
  rw [← pha, ← phb, ← pz2]
  clear ps1 ps2 pc2 pc1 ps3 pha phb pz pz2
  refine (Covers_any 2 _ [[1], [0]] _ pS.out (.inr ⟨_, _, _, rfl⟩) (by decide)).mono ?_
  rintro e w12 ⟨rfl, hbp⟩
  rw [e11]
  have HBp := Lib.hid (ext_trans pB.out hbp)
  clear hbp
  go_wp2_with fail
  obtain ⟨qa, qha⟩ : ∃ x, x = w12.alloc (.cells #[.int .i64 0] 3) := ⟨_, rfl⟩
  obtain ⟨qb, qhb⟩ : ∃ x, x = qa.alloc (.cells #[.int .i64 0, .int .i64 1] 3) := ⟨_, rfl⟩
  have qz : qa.heap.size = w12.heap.size + 1 := by rw [qha]; simp
  have qz2 : qb.heap.size = w12.heap.size + 1 + 1 := by rw [qhb]; simp [qz]
  have qs1 : SI qa (.slice (some ⟨w12.heap.size, 0, none⟩) 1 1) [0] := by rw [qha]; exact SI_lit _ [0] _ (by simp)
  have qs2 : SI qb (.slice (some ⟨w12.heap.size + 1, 0, none⟩) 2 2) [0, 1] := by rw [qhb, ← qz]; exact SI_lit _ [0, 1] _ (by simp)
  have qc2 : Below qa.heap.size qa qb := by rw [qhb]; exact below_alloc (Below.refl _ _) _
  have qc1 : Below w12.heap.size w12 qa := by rw [qha]; exact below_alloc (Below.refl _ _) _
  have qs3 : SS (qb.alloc (.cells #[.slice (some ⟨w12.heap.size, 0, none⟩) 1 1, .slice (some ⟨w12.heap.size + 1, 0, none⟩) 2 2] 24)) (.slice (some ⟨qb.heap.size, 0, none⟩) 2 2) [[0], [0, 1]] := by
    refine SS_lit qb [.slice (some ⟨w12.heap.size, 0, none⟩) 1 1, .slice (some ⟨w12.heap.size + 1, 0, none⟩) 2 2] [[0], [0, 1]] _ rfl (by decide) fun i hi => ?_
    have hi : i < 2 := hi
    have : i = 0 ∨ i = 1 := by omega
    rcases this with rfl | rfl
    · exact qs1.keep qc2
    · exact qs2
  have qS := Lib.hid qs3
  have qB := Lib.hid (below_alloc (ext_trans qc1 qc2) (.cells #[.slice (some ⟨w12.heap.size, 0, none⟩) 1 1, .slice (some ⟨w12.heap.size + 1, 0, none⟩) 2 2] 24))
  rw [← qha, ← qhb, ← qz2]
  clear qs1 qs2 qc2 qc1 qs3 qha qhb qz qz2
  refine (Covers_any 2 _ [[0], [0, 1]] _ qS.out (.inr ⟨_, _, _, rfl⟩) (by decide)).mono ?_
  rintro e w13 ⟨rfl, hbq⟩
  rw [e12]
  have HBq := Lib.hid (ext_trans qB.out hbq)
  clear hbq
  go_wp2_with fail
  have rs : SS (w13.alloc (.cells #[.slice none 0 0] 24)) (.slice (some ⟨w13.heap.size, 0, none⟩) 1 1) [[]] := by
    refine SS_lit w13 [.slice none 0 0] [[]] _ rfl (by decide) fun i hi => ?_
    have hi : i < 1 := hi
    obtain rfl : i = 0 := by omega
    exact SI_nil _
  have RS := Lib.hid rs
  clear rs
  refine (Covers_any 0 _ [[]] _ RS.out (.inr ⟨_, _, _, rfl⟩) (by decide)).mono ?_
  rintro e w14 ⟨rfl, hb14⟩
  rw [e13]
  have HB14 := Lib.hid (HB11.out.trans ((ext_trans HBp.out (ext_trans HBq.out (ext_trans (below_alloc (Below.refl _ _) _) hb14))).mono HB11.out.size))
  clear hb14
  go_wp2_with fail
  go_ret
  exact ⟨rfl, HB14.out⟩
end Go.Proofs.YtehbnckdllbmgaaGreatDoor
