/- Points: cross, sign, within, on, meet, touch, far of the program (printed by wip/gen_poa.py). -/
import Derived.Test.YtfmhickjefogdaaGreatPk07
import Derived.Deep.WholeRow
import Derived.Test.YtfmhickjefogdaaGreatPk09
set_option linter.unusedSimpArgs false
set_option linter.unusedVariables false

/- A region that draws its order, in which the value of a call (a struct, not known ahead) goes into a new variable. -/
namespace Go.Proofs.YtfmhickjefogdaaGreat
open Go.RowKit

def aggC : Value → Array Value
  | .agg c => c
  | _ => #[]
structure JCn (A B C n0 : Nat) (ty : TypeId) (zero : Array Value) (cellsOf : Value → Array Value) (V : Value → World → Prop) (s : Nat → Option Value) (u : World) : Prop where
  ac : s A = none → s C = none
  bc : s B = none → s C = none
  a : ∀ v, s A = some v → V v u
  b : ∀ v, s B = some v → ∃ g, v = .pointer (some ⟨g, 0, none⟩) ∧ n0 ≤ g ∧ (s C = none → ObjAt u g zero ty)
  c : ∀ z, s C = some z → ∃ x g, s A = some x ∧ s B = some (.pointer (some ⟨g, 0, none⟩)) ∧ n0 ≤ g ∧ ObjAt u g (cellsOf x) ty
section
variable {a0 : Act} {ps : List (Nat × Nat)} {T : QTab} {E : List Ob} {hs : List (Nat × Hint)}
def evCn (a0 : Act) (E : List Ob) (w : World) (nA nB : Nat) (ns : List Nat) (vs : List Value) (ty : TypeId) (cellsOf : Value → Array Value) (V : Value → World → Prop) (outs : List (Nat × Value)) (Q : Act → World → Prop) (S : List Ent) : Prop :=
  argsAt E S ns vs ∧ ∀ (f : Nat → Value), match a0 with
    | ⟨⟨l⟩, d⟩ => finS E outs f S l fun l' => setsN f [nA, nB] l' fun l'' => ∀ w' x g, Below w.heap.size w w' → w.heap.size ≤ g → V x w' → ObjAt w' g (cellsOf x) ty → f nB = .pointer (some ⟨g, 0, none⟩) → Q ⟨l''.toArray, d⟩ w'
theorem wp_region_cn {id : Nat} {Q : Exit → Act → World → Prop} {w : World} {ops : List Oper} (T : QTab) (hT : T.Ok) (E : List Ob) (ps : List (Nat × Nat)) (hs : List (Nat × Hint)) (outs : List (Nat × Value))
    (A B C nA nB : Nat) (ns : List Nat) (vs : List Value) (ty : TypeId) (zero : Array Value) (cellsOf : Value → Array Value) (V : Value → World → Prop)
    (hz : (ops.all fun o => match o.dst with | some n => decide (n < a0.tmps.size) | none => true) = true) (hm : Tryz.prog.follows .mixedOrders = true)
    (hst : (ordB ops.toArray && nodB (dstsL ops) && chkB ops.toArray (quietL [A, B, C] 0 ops) && depB [A, B, C] ops.toArray) = true)
    (hsp : spD [A, B, C] 0 ops = [nA, nB]) (hne : A ≠ B ∧ A ≠ C ∧ B ≠ C)
    (hA : ∃ o, ops[A]? = some o ∧ o.dst = some nA ∧ (∀ n ∈ ns, n ∈ o.looksAt ops.toArray) ∧ ∀ (a : Act) (u : World) (K : Act → World → Prop), (ns.map Operand.tmp).map a.eval = vs → Below w.heap.size w u → (∀ x u', V x u' → Below u.heap.size u u' → K (a.put o.dst x) u') → o.wp Tryz.prog a u K Q)
    (hB : ∃ o, ops[B]? = some o ∧ o.op = .alloc ty ∧ o.dst = some nB)
    (hC : ∃ o, ops[C]? = some o ∧ o.op = .store ty (.tmp nB) (.tmp nA) ∧ o.dst = none ∧ (∃ e ∈ o.after, e.on = A ∧ Region.binds .any e = true) ∧ ∃ e ∈ o.after, e.on = B ∧ Region.binds .any e = true)
    (hV : ∀ x u u', V x u → Below u.heap.size u u' → V x u') (hVr : ∀ x u g cs, V x u → ObjAt u g zero ty → V x (u.setRow g cs))
    (hform : ∀ x u, V x u → x = .agg (cellsOf x) ∧ zero.size = (cellsOf x).size ∧ (cellsOf x).all (·.oneCell') = true)
    (halloc : ∀ w, (Instr.alloc ty true (.tuple #[])).run Tryz.prog w = .ok (.pointer (some ⟨w.heap.size, 0, none⟩)) (w.alloc (.cells zero ty)))
    (hi : (Tryz.prog.info? ty).map (·.size) = some zero.size)
    (hE : ObsIn (Below w.heap.size w) E) (P : psOk a0 E ps)
    (h : evL a0 ps T E (Below w.heap.size w) (fun u u' => Below u.heap.size u u') hs ops (evCn a0 E w nA nB ns vs ty cellsOf V outs (Q .normal)) (quietL [A, B, C] 0 ops) []) : (Code.region id ops.toArray true).wp Tryz.prog Q a0 w := by
  obtain ⟨oA, hA1, hA3, hA4, hA5⟩ := hA
  obtain ⟨oB, hB1, hB2, hB3⟩ := hB
  obtain ⟨oC, hC1, hC2, hC3, ⟨eA, hC4, hC5, hC6⟩, eB, hC7, hC8, hC9⟩ := hC
  obtain ⟨nAB, nAC, nBC⟩ := hne
  have hst' := hst
  simp only [Bool.and_eq_true] at hst'
  obtain ⟨⟨⟨s1, s2⟩, s3⟩, s4⟩ := hst'
  have hsub : ∀ o ∈ quietL [A, B, C] 0 ops, o ∈ ops := fun o ho => by obtain ⟨k, hk, _⟩ := mem_quietL ho; exact List.mem_of_getElem? hk
  obtain ⟨S, H, af, I, ⟨h1, h2⟩, f1, f2, f3⟩ := evL_fin P hT hE hz _ [] [] a0 hsub s3 InvQ.start h
  refine mix_core [A, B, C] E (Below w.heap.size w) (fun u u' => Below u.heap.size u u') outs (JCn A B C w.heap.size ty zero cellsOf V) hz hm hst ((Below.refl _ _).drew)
    ⟨fun _ => rfl, fun _ => rfl, fun v hv => (by cases hv), fun v hv => (by cases hv), fun v hv => (by cases hv)⟩ (fun u u' h1 h2 => h1.trans (h2.mono h1.size)) (fun u _ => Below.refl _ _)
    (fun s u u' _ hj hb => ⟨hj.ac, hj.bc, fun v hv => hV _ _ _ (hj.a v hv) hb, fun v hv => by obtain ⟨g, e, q1, q2⟩ := hj.b v hv; exact ⟨g, e, q1, fun hc => (q2 hc).keep hb⟩, fun v hv => by obtain ⟨x, g, q1, q2, q3, q4⟩ := hj.c v hv; exact ⟨x, g, q1, q2, q3, q4.keep hb⟩⟩) I ⟨⟨?_, ?_, ?_, trivial⟩, fun f s hsv => ?_⟩ f1 f2 f3
  · intro o a u s ho hCu hJ hn hq hold hdep K hK
    rw [hA1] at ho; cases ho
    have hx := argsAt_map (a := a) h1 fun n hn' => hq n (hA4 n hn')
    have hsC := hJ.ac hn
    refine hA5 a u K hx hCu fun x u' hv hb => ?_
    refine hK _ _ (hCu.trans (hb.mono hCu.size)) ⟨fun h => (by rw [updS_same] at h; cases h), fun h => ?_, fun v' hv' => ?_, fun v' hv' => ?_, fun v' hv' => ?_⟩
    · rw [updS_other (Ne.symm nAC)]; exact hsC
    · rw [updS_same] at hv'; cases hv'; exact hv
    · rw [updS_other (Ne.symm nAB)] at hv'
      obtain ⟨g, e, q1, q2⟩ := hJ.b v' hv'
      exact ⟨g, e, q1, fun _ => (q2 hsC).keep hb⟩
    · rw [updS_other (Ne.symm nAC), hsC] at hv'; cases hv'
  · intro o a u s ho hCu hJ hn hq hold hdep K hK
    rw [hB1] at ho; cases ho
    have hsC := hJ.bc hn
    have hb : Below u.heap.size u (u.alloc (.cells zero ty)) := (Below.refl _ _).alloc (Nat.le_refl _) _
    refine wp_of_run (v := .pointer (some ⟨u.heap.size, 0, none⟩)) (w' := u.alloc (.cells zero ty)) (by unfold execOp; simp only [hB2, Sem.run_bind, halloc]; rfl) (hK _ _ (hCu.trans (hb.mono hCu.size)) ⟨fun h => ?_, fun h => (by rw [updS_same] at h; cases h), fun v' hv' => ?_, fun v' hv' => ?_, fun v' hv' => ?_⟩)
    · rw [updS_other (Ne.symm nBC)]; exact hsC
    · rw [updS_other nAB] at hv'; exact hV _ _ _ (hJ.a v' hv') hb
    · rw [updS_same] at hv'; cases hv'
      exact ⟨_, rfl, hCu.size, fun _ => ObjAt.new u zero ty⟩
    · rw [updS_other (Ne.symm nBC), hsC] at hv'; cases hv'
  · intro o a u s ho hCu hJ hn hq hold hdep K hK
    rw [hC1] at ho; cases ho
    obtain ⟨x, v1, v2⟩ := hdep eA hC4 hC6 (by rw [hC5]; simp)
    rw [hC5] at v1 v2
    obtain ⟨y, y1, y2⟩ := hdep eB hC7 hC9 (by rw [hC8]; simp)
    rw [hC8] at y1 y2
    have hx : a.eval (.tmp nA) = x := v2 oA nA hA1 hA3
    have hy : a.eval (.tmp nB) = y := y2 oB nB hB1 hB3
    obtain ⟨g, rfl, q1, q2⟩ := hJ.b y y1
    have hob := q2 hn
    have hv := hJ.a x v1
    obtain ⟨g1, g2, g3⟩ := hform x u hv
    refine wp_store_row ty (.tmp nB) (.tmp nA) hC2 g (cellsOf x) hy (hx.trans g1) ty zero hob (by rw [hi, g2]) g2 g3 (hK _ _ (below_setRow hCu q1 _) ⟨fun h => ?_, fun h => ?_, fun v' hv' => ?_, fun v' hv' => ?_, fun v' hv' => ?_⟩)
    · rw [updS_other nAC, v1] at h; cases h
    · rw [updS_other nBC, y1] at h; cases h
    · rw [updS_other nAC, v1] at hv'; cases hv'; exact hVr _ _ _ _ hv hob
    · rw [updS_other nBC, y1] at hv'; cases hv'
      exact ⟨g, rfl, q1, fun h => (by rw [updS_same] at h; cases h)⟩
    · exact ⟨x, g, by rw [updS_other nAC]; exact v1, by rw [updS_other nBC]; exact y1, q1, setRow_heap _ _ _ _ _ _ hob⟩
  · obtain ⟨vC, c1, _⟩ := hsv C (by simp) oC hC1
    obtain ⟨vB, b1, b2⟩ := hsv B (by simp) oB hB1
    obtain ⟨⟨l⟩, d⟩ := a0
    dsimp only at h2 ⊢
    rw [hsp]
    refine finS_mono (fun l' hl' => ?_) (h2 f)
    rw [setsN_eq] at hl' ⊢
    intro w' hC' hJ
    obtain ⟨x, g, e1, e2, e3, e4⟩ := hJ.c vC c1
    refine hl' w' x g hC' e3 (hJ.a x e1) e4 ?_
    rw [b1] at e2
    cases e2
    exact (b2 nB hB3).symm
end
end Go.Proofs.YtfmhickjefogdaaGreat

/- spot of the reference's nest (printed by wip/gen_rmk2.py). -/
namespace Go.Proofs.YtfmhickjefogdaaGreat
open Go.RowKit

structure Sht where
  id : List UInt8
  grade : List UInt8
  thick : Int
  length : Int
  width : Int
  heat : List UInt8
def shtA (x : Sht) : Array Value := #[.string (bs x.id), .string (bs x.grade), .int .i64 x.thick, .int .i64 x.length, .int .i64 x.width, .string (bs x.heat)]
/-- the part of a spot -/
def prt (P : List Prt) (x : Spo) : Prt := pri P (findP P x.part).toNat
def mvO (P : List Prt) (x : Spo) : List Pnt := mvL x (prt P x).outer
def mvH (P : List Prt) (x : Spo) : List (List Pnt) := (prt P x).holes.map (mvL x)
/-- a spot that is right -/
structure SpotR (P : List Prt) (L W g : Int) (x : Spo) : Prop where
  f : 0 ≤ findP P x.part
  r : RightS x
  s : Rgn (prt P x).outer (prt P x).holes
  w : WinR (mvO P x) L W g
theorem SpotR.shp2 {P : List Prt} {L W g : Int} {x : Spo} (h : SpotR P L W g x) : Shp2 (mvO P x) (mvH P x) ∧ ∀ c ∈ mvO P x :: mvH P x, Inn g g (L - g) (W - g) c :=
  shp2_on (rgn_shp.1 h.s) h.w.inn (by have := h.w.m0; omega) (by have := h.w.m0; omega) (by have := h.w.l1; have := h.w.m0; omega) (by have := h.w.w1; have := h.w.m0; omega)
theorem SpotR.rgn {P : List Prt} {L W g : Int} {x : Spo} (h : SpotR P L W g x) : Rgn (mvO P x) (mvH P x) := rgn_shp.2 h.shp2.1
/-- it comes back with a number, and 0 means something -/
def RetN0 (P : Prop) (w : World) (e : Ending) (w' : World) : Prop := ∃ z : Int, e = .returned (.int .i64 z) ∧ Below w.heap.size w w' ∧ (z = 0 → P)
theorem alloc_Spot : ∀ w, (Instr.alloc 55 true (.tuple #[])).run Tryz.prog w = .ok (.pointer (some ⟨w.heap.size, 0, none⟩)) (w.alloc (.cells #[.string ⟨#[]⟩, .int .i64 0, .int .i64 0, .int .i64 0, .bool false] 55)) := fun w => by go_simp
def zPr : Array Value := #[.string ⟨#[]⟩, .int .i64 0, .int .i64 0, .string ⟨#[]⟩, .string ⟨#[]⟩, .int .i64 0, .slice none 0 0, .slice none 0 0, .string ⟨#[]⟩, .int .i64 0, .int .i64 0, .int .i64 0, .int .i64 0, .int .i64 0, .int .i64 0, .int .i64 0, .int .i64 0, .int .i64 0]
theorem alloc_Part : ∀ w, (Instr.alloc 61 true (.tuple #[])).run Tryz.prog w = .ok (.pointer (some ⟨w.heap.size, 0, none⟩)) (w.alloc (.cells zPr 61)) := fun w => by unfold zPr; go_simp
theorem alloc_Shape : ∀ w, (Instr.alloc 47 true (.tuple #[])).run Tryz.prog w = .ok (.pointer (some ⟨w.heap.size, 0, none⟩)) (w.alloc (.cells #[.slice none 0 0, .slice none 0 0] 47)) := fun w => by go_simp
theorem so_one (x : Spo) : (soA x).all (·.oneCell') = true := by simp [soA, Value.oneCell']
theorem pr_one {w : World} {x : Prt} (h : PrtOK w x) : (prA x).all (·.oneCell') = true := by
  obtain ⟨a, c, e, _⟩ := h.o
  obtain ⟨b, d, e2, _⟩ := h.hs
  simp [prA, Value.oneCell', e, e2]
theorem boxNS (w : World) (nm : List UInt8) (gp : Int) (sa : Option Addr) (sn sc : Nat) (sh : Sht) : ∃ W1, Hid (ObjAt W1 w.heap.size #[.string (bs nm), .int .i64 gp, .slice sa sn sc] 24) ∧ Hid (ObjAt W1 (w.heap.size + 1) (shtA sh) 26) ∧ Hid (Below w.heap.size w W1) ∧ Hid ((w.alloc (.cells #[.string (bs nm), .int .i64 gp, .slice sa sn sc] 24)).alloc (.cells #[.string (bs sh.id), .string (bs sh.grade), .int .i64 sh.thick, .int .i64 sh.length, .int .i64 sh.width, .string (bs sh.heat)] 26) = W1) :=
  ⟨_, (ObjAt.new w #[.string (bs nm), .int .i64 gp, .slice sa sn sc] 24).alloc _, (by have h := ObjAt.new (w.alloc (.cells #[.string (bs nm), .int .i64 gp, .slice sa sn sc] 24)) (shtA sh) 26; rw [size_alloc] at h; exact h), ((Below.refl _ _).alloc (Nat.le_refl _) _).alloc (by simp) _, rfl⟩
theorem newObj (w : World) (xs : Array Value) (e : TypeId) : ∃ W1, Hid (ObjAt W1 w.heap.size xs e) ∧ Hid (Below w.heap.size w W1) ∧ Hid (w.alloc (.cells xs e) = W1) := ⟨_, ObjAt.new _ _ _, (Below.refl _ _).alloc (Nat.le_refl _) _, rfl⟩
theorem rgn_con {o : List Pnt} {hl : List (List Pnt)} (h : Rgn o hl) : Con o ∧ (∀ i, i < hl.length → Con (hl.getD i [])) ∧ hl.length ≤ 8 :=
  ⟨h.con 0 (by simp), fun i hi => h.con (i + 1) (by simp; omega), h.n⟩
set_option maxRecDepth 100000 in
set_option maxHeartbeats 4000000 in
theorem rspot_any (nm : List UInt8) (gp : Int) (sv pv : Value) (S : List Spo) (sh : Sht) (P : List Prt) (k : Nat) (w : World) (hs : SSo w sv S) (hp : SPr w pv P) (ho : ∀ i, i < P.length → PrtOK w (pri P i)) (hk : k < S.length) (hS : S.length ≤ 32) (hP : P.length ≤ 100000) (he : ∀ j, j < k → SpotR P sh.length sh.width gp (soi S j)) :
    Calls Tryz.prog 13 #[.agg #[.string (bs nm), .int .i64 gp, sv], .agg (shtA sh), pv, .int .i64 k] w (RetN0 (SpotR P sh.length sh.width gp (soi S k) ∧ ∀ j, j < k → SepR (mvO P (soi S j)) (mvH P (soi S j)) (mvO P (soi S k)) (mvH P (soi S k))) w) := by
  have HSS := Lib.hid hs
  have HPP := Lib.hid hp
  have HPO := Lib.hid ho
  have HE := Lib.hid he
  have HPL := Lib.hid hP
  obtain ⟨sa, sc, rfl, _, _, s3⟩ := hs
  obtain ⟨pa, pc, rfl, _, _, p3⟩ := hp
  have S3 := Lib.hid s3
  have P3 := Lib.hid p3
  obtain ⟨xb, xo, rfl, hx0⟩ := s3 k hk
  have HX0 := Lib.hid hx0
  clear s3 p3 ho he hx0
  obtain ⟨x, hx⟩ : ∃ x, soi S k = x := ⟨_, rfl⟩
  have HXE := Lib.hid hx
  rw [hx] at HX0
  clear hx
  obtain ⟨W1, HN1, HT1, HB1, HW1⟩ := boxNS w nm gp (some ⟨xb, xo, none⟩) S.length sc sh
  unfold shtA
  go_enter Tryz.func13, Tryz.ntmps13
  go_upto_region 1 with fail
  rw [HW1.out]

  refine wp_region_en 5 gmT gmT_ok [⟨w.heap.size, 0, [.string (bs nm), .int .i64 gp, .slice (some ⟨xb, xo, none⟩) S.length sc]⟩, ⟨xb, xo + k * 5, soCells x⟩] (fun v => v = W1) [(4, 0)] [(19, .ix k 1)] [(20, .agg (soA x))] 9 20 55 (#[.string ⟨#[]⟩, .int .i64 0, .int .i64 0, .int .i64 0, .bool false]) (soA x) (by kernel_rfl) rfl ⟨_, _, rfl, ⟨rfl, rfl, rfl⟩, rfl, rfl, rfl⟩ (by decide) alloc_Spot (by kernel_rfl) rfl (so_one x)
    (obsC (fun u hu => by cases hu; exact (range_new HN1.out)) (obsC (fun u hu => by cases hu; exact (so_range (HX0.out.keep HB1.out))) obsN)) ⟨rfl, trivial⟩ ?_
  conv => whnf
  refine And.intro (under_of ⟨rfl, hk, rfl, rfl⟩) ?_
  conv => whnf
  refine And.intro (Nat.le_of_ble_eq_true rfl) ?_
  conv => whnf
  intro f1
  conv => whnf
  refine And.intro (rfl) ?_
  conv => whnf
  refine And.intro ⟨rfl, rfl⟩ ?_
  intro w2 h2
  conv => whnf
  cases h2
  obtain ⟨W2, HX2, HB2', HW2⟩ := newObj W1 (soA x) 55
  rw [HW2.out]
  have HB2 := Lib.hid (ext_trans HB1.out HB2'.out)
  have HN2 := Lib.hid (HN1.out.keep HB2'.out)
  have HT2 := Lib.hid (HT1.out.keep HB2'.out)
  go_upto_region 2 with fail
  refine wp_region_et gmT gmT_ok [⟨W1.heap.size, 0, (soA x).toList⟩] (Below W2.heap.size W2) [(9, 0)] [(24, .ret (.int .i64 (findP P x.part)))] [(10, .int .i64 (findP P x.part))] (by kernel_rfl) (Below.refl _ _)
    (obsC (fun u hu => rangeKeep (range_new HX2.out) hu) obsN) ⟨rfl, trivial⟩ ?_
  conv => whnf
  refine And.intro (under_of fun u hu => ret_in (rFind_any _ P x.part u (HPP.out.keep (ext_trans HB2.out hu)) HPL.out) hu) ?_
  conv => whnf
  intro f3
  conv => whnf
  refine And.intro (rfl) ?_
  conv => whnf
  intro w3 h3
  have HB3 := Lib.hid (ext_trans HB2.out h3)
  have HN3 := Lib.hid (HN2.out.keep h3)
  have HT3 := Lib.hid (HT2.out.keep h3)
  have HX3 := Lib.hid (HX2.out.keep h3)
  clear h3
  rcases findP_spec P x.part with hf | ⟨i, hi, hf, _⟩
  · rw [hf]
    go_wp2_with fail
    go_ret
    exact ⟨8, rfl, HB3.out, fun h => by cases h⟩
  have HF := Lib.hid hf
  rw [hf]
  clear hf
  go_wp2_with fail
  go_loopw [11] (fun i wr => ∃ j : Nat, j ≤ k ∧ i = .int .i64 j ∧ Hid (Below w3.heap.size w3 wr)) (fun i _ => k - (intOf i).toNat)
  case atStart => exact ⟨0, Nat.zero_le _, rfl, Below.refl _ _⟩
  case round =>
    obtain ⟨j, hj, rfl, hb⟩ := hrel
    by_cases hlt : j < k
    · have i1 : (j : Int) < k := by omega
      have hjS : j < S.length := by omega
      obtain ⟨yb, yo, ey, hy⟩ := S3.out j hjS
      cases ey
      have HYJ := Lib.hid (hy.keep (ext_trans HB3.out hb.out))
      clear hy
      go_upto_region 8 with fail
      refine wp_region_ev gmT gmT_ok [⟨w.heap.size, 0, [.string (bs nm), .int .i64 gp, .slice (some ⟨xb, xo, none⟩) S.length sc]⟩, ⟨xb, xo + j * 5, soCells (soi S j)⟩, ⟨W1.heap.size, 0, (soA x).toList⟩] (Below wr.heap.size wr) [(4, 0), (9, 2)] [(35, .ix j 1)] [(40, .bool ((soi S j).part == x.part))] (by kernel_rfl) mixed (by kernel_rfl) ((Below.refl _ _).drew)
        (obsC (fun u hu => rangeKeep (range_new (HN3.out.keep hb.out)) hu) (obsC (fun u hu => rangeKeep (so_range HYJ.out) hu) (obsC (fun u hu => rangeKeep (range_new (HX3.out.keep hb.out)) hu) obsN))) ⟨rfl, rfl, trivial⟩ ?_
      conv => whnf
      refine And.intro (under_of ⟨rfl, hjS, rfl, rfl⟩) ?_
      conv => whnf
      intro f4
      conv => whnf
      refine And.intro (congrArg Value.bool (bs_eq _ _)) ?_
      conv => whnf
      intro w4 h4
      have HB4 := Lib.hid (ext_trans hb.out h4)
      clear h4
      obtain ⟨z, hz⟩ : ∃ z, ((soi S j).part == x.part) = z := ⟨_, rfl⟩
      rw [hz]
      clear hz
      cases z
      · go_wp2_with fail
        go_roundw
        case rel => exact ⟨j + 1, by omega, by go_num, HB4⟩
        case measure => simp [intOf]; omega
      · have HBE := Lib.hid (ext_trans HB3.out HB4.out)
        go_wp2_with fail
        go_ret
        exact ⟨7, rfl, HBE.out, fun h => by cases h⟩
    · have i1 : ¬ (j : Int) < k := by omega
      have HB4 := Lib.hid (ext_trans HB3.out hb.out)
      have HN4 := Lib.hid (HN3.out.keep hb.out)
      have HT4 := Lib.hid (HT3.out.keep hb.out)
      have HX4 := Lib.hid (HX3.out.keep hb.out)
      clear hj hlt
      obtain ⟨qb, qo, rfl, hq⟩ := P3.out i hi
      have HQ := Lib.hid (hq.keep HB4.out)
      have HQO := Lib.hid ((HPO.out i hi).keep HB4.out)
      have HPE : Hid (prt P x = pri P i) := by show _ = _; unfold prt; rw [HF.out]; rfl
      clear hq hb
      go_upto_region 10 with fail
      refine wp_region_en 4 gmT gmT_ok [⟨qb, qo + i * 18, prCells (pri P i)⟩] (fun v => v = wr) [] [(43, .ix i 0)] [(44, .agg (prA (pri P i)))] 12 44 61 (zPr) (prA (pri P i)) (by kernel_rfl) rfl ⟨_, _, rfl, ⟨rfl, rfl, rfl⟩, rfl, rfl, rfl⟩ (by decide) alloc_Part (by kernel_rfl) rfl (pr_one HQO.out)
        (obsC (fun u hu => by cases hu; exact (pr_range HQ.out)) obsN) trivial ?_
      conv => whnf
      refine And.intro (under_of ⟨rfl, hi, rfl, rfl⟩) ?_
      conv => whnf
      refine And.intro (Nat.le_of_ble_eq_true rfl) ?_
      conv => whnf
      intro f1
      conv => whnf
      refine And.intro (rfl) ?_
      conv => whnf
      refine And.intro ⟨rfl, rfl⟩ ?_
      intro w2 h2
      conv => whnf
      cases h2
      obtain ⟨W5, HP5, HB5', HW5⟩ := newObj wr (prA (pri P i)) 61
      rw [HW5.out]
      have HB5 := Lib.hid (ext_trans HB4.out HB5'.out)
      have HN5 := Lib.hid (HN4.out.keep HB5'.out)
      have HT5 := Lib.hid (HT4.out.keep HB5'.out)
      have HX5 := Lib.hid (HX4.out.keep HB5'.out)
      go_upto_region 11 with fail
      refine wp_region_et gmT gmT_ok [⟨wr.heap.size, 0, (prA (pri P i)).toList⟩] (Below W5.heap.size W5) [(12, 0)] [] [(45, .bool (!(decide ((pri P i).kind = 1))))] (by kernel_rfl) (Below.refl _ _)
        (obsC (fun u hu => rangeKeep (range_new HP5.out) hu) obsN) ⟨rfl, trivial⟩ ?_
      conv => whnf
      intro f6
      conv => whnf
      refine And.intro (by first | rfl | (congr 1; simp)) ?_
      conv => whnf
      intro w6 h6
      have HB6 := Lib.hid (ext_trans HB5.out h6)
      have HN6 := Lib.hid (HN5.out.keep h6)
      have HT6 := Lib.hid (HT5.out.keep h6)
      have HX6 := Lib.hid (HX5.out.keep h6)
      have HP6 := Lib.hid (HP5.out.keep h6)
      clear h6
      obtain ⟨z, hz⟩ : ∃ z, (!(decide ((pri P i).kind = 1))) = z := ⟨_, rfl⟩
      rw [hz]
      clear hz
      cases z
      case true =>
        go_wp2_with fail
        go_ret
        exact ⟨10, rfl, HB6.out, fun h => by cases h⟩
      go_upto_region 13 with fail
      refine wp_region_et gmT gmT_ok [⟨wr.heap.size, 0, (prA (pri P i)).toList⟩, ⟨w.heap.size + 1, 0, (shtA sh).toList⟩] (Below w6.heap.size w6) [(12, 0), (5, 1)] [] [(49, .bool (!((bs (pri P i).grade).toList == (bs sh.grade).toList) || !(decide ((pri P i).thick = sh.thick))))] (by kernel_rfl) (Below.refl _ _)
        (obsC (fun u hu => rangeKeep (range_new HP6.out) hu) (obsC (fun u hu => rangeKeep (range_new HT6.out) hu) obsN)) ⟨rfl, rfl, trivial⟩ ?_
      conv => whnf
      intro f7
      conv => whnf
      refine And.intro (by first | rfl | (congr 1; simp)) ?_
      conv => whnf
      intro w7 h7
      have HB7 := Lib.hid (ext_trans HB6.out h7)
      have HN7 := Lib.hid (HN6.out.keep h7)
      have HT7 := Lib.hid (HT6.out.keep h7)
      have HX7 := Lib.hid (HX6.out.keep h7)
      have HP7 := Lib.hid (HP6.out.keep h7)
      have HQ7 := Lib.hid ((HPO.out i hi).keep HB7.out)
      clear h7
      obtain ⟨z, hz⟩ : ∃ z, (!((bs (pri P i).grade).toList == (bs sh.grade).toList) || !(decide ((pri P i).thick = sh.thick))) = z := ⟨_, rfl⟩
      rw [hz]
      clear hz
      cases z
      case true =>
        go_wp2_with fail
        go_ret
        exact ⟨23, rfl, HB7.out, fun h => by cases h⟩
      have c6 := HP7.out.cell 6
      have c7 := HP7.out.cell 7
      simp only [prA] at c6 c7
      dsimp at c6 c7
      go_wp2_with fail
      refine (rChkR_any _ _ (pri P i).outer (pri P i).holes (pri P i).hvs w7 HQ7.out.shp).mono ?_
      rintro e w8 ⟨z, rfl, hb8, hz⟩
      have HB8 := Lib.hid (ext_trans HB7.out hb8)
      have HN8 := Lib.hid (HN7.out.keep hb8)
      have HT8 := Lib.hid (HT7.out.keep hb8)
      have HX8 := Lib.hid (HX7.out.keep hb8)
      have HP8 := Lib.hid (HP7.out.keep hb8)
      clear hb8 c6 c7
      by_cases ez : z = 0
      case neg =>
        clear hz
        go_wp2_with fail
        go_ret
        exact ⟨17, rfl, HB8.out, fun h => by cases h⟩
      have HRG := Lib.hid (hz.1 ez)
      subst ez
      clear hz
      have x0 := HX8.out.cell 0
      have x1 := HX8.out.cell 1
      have x2 := HX8.out.cell 2
      have x3 := HX8.out.cell 3
      have x4 := HX8.out.cell 4
      simp only [soA] at x0 x1 x2 x3 x4
      dsimp at x0 x1 x2 x3 x4
      go_wp2_with fail
      refine (rright_any x w8).mono ?_
      rintro e w9 ⟨rfl, hb9⟩
      have HB9 := Lib.hid (ext_trans HB8.out hb9)
      have HN9 := Lib.hid (HN8.out.keep hb9)
      have HT9 := Lib.hid (HT8.out.keep hb9)
      have HX9 := Lib.hid (HX8.out.keep hb9)
      have HP9 := Lib.hid (HP8.out.keep hb9)
      clear hb9 x0 x1 x2 x3 x4
      obtain ⟨z, hz⟩ : ∃ z, rightB x = z := ⟨_, rfl⟩
      have HZR := Lib.hid hz
      rw [hz]
      clear hz
      cases z
      case false =>
        go_wp2_with fail
        go_ret
        exact ⟨9, rfl, HB9.out, fun h => by cases h⟩
      have HRS := Lib.hid ((rightB_iff x).1 HZR.out)
      have c6 := HP9.out.cell 6
      have c7 := HP9.out.cell 7
      have x0 := HX9.out.cell 0
      have x1 := HX9.out.cell 1
      have x2 := HX9.out.cell 2
      have x3 := HX9.out.cell 3
      have x4 := HX9.out.cell 4
      simp only [soA, prA] at c6 c7 x0 x1 x2 x3 x4
      dsimp at c6 c7 x0 x1 x2 x3 x4
      go_wp2_with fail
      have HQ9 := Lib.hid ((HPO.out i hi).keep HB9.out)
      refine (rMove_any _ _ (pri P i).outer (pri P i).holes (pri P i).hvs x w9 HQ9.out.shp (rgn_con HRG.out).1 (rgn_con HRG.out).2.1 (rgn_con HRG.out).2.2 HRS.out).mono ?_
      rintro e w10 ⟨mv, nv, mvs, rfl, hm, hb10⟩
      have HB10 := Lib.hid (ext_trans HB9.out hb10)
      have HN10 := Lib.hid (HN9.out.keep hb10)
      have HT10 := Lib.hid (HT9.out.keep hb10)
      have HX10 := Lib.hid (HX9.out.keep hb10)
      have HM10 : Hid (ShpOK w10 mv nv (mvO P x) (mvH P x) mvs) := by show ShpOK ..; unfold mvO mvH; rw [HPE.out]; exact hm.shp
      obtain ⟨ma, mc, rfl, _⟩ := HM10.out.o
      obtain ⟨na, nc, rfl, _⟩ := HM10.out.hs
      clear hb10 hm c6 c7 x0 x1 x2 x3 x4
      obtain ⟨W11, HS11, HB11', HW11⟩ := newObj w10 #[.slice ma (mvO P x).length mc, .slice na mvs.length nc] 47
      go_upto_region 20 with fail
      rw [HW11.out]
      have HB11 := Lib.hid (ext_trans HB10.out HB11'.out)
      have HN11 := Lib.hid (HN10.out.keep HB11'.out)
      have HT11 := Lib.hid (HT10.out.keep HB11'.out)
      have HM11 := Lib.hid (HM10.out.keep HB11'.out)
      have s0 := HS11.out.cell 0
      have s1 := HS11.out.cell 1
      have t3 := HT11.out.cell 3
      have t4 := HT11.out.cell 4
      have n1 := HN11.out.cell 1
      simp only [shtA] at t3 t4
      dsimp at s0 s1 t3 t4 n1
      go_wp2_with fail
      refine (rWithin_any _ _ (mvO P x) sh.length sh.width gp W11 HM11.out.o (by unfold mvO; rw [(mov_spo x).len, HPE.out]; exact Nat.le_trans (rgn_con HRG.out).1.ln (by decide)) ⟨_, _, _, rfl⟩).mono ?_
      rintro e w12 ⟨z, rfl, hb12, hz⟩
      have HB12 := Lib.hid (ext_trans HB11.out hb12)
      have HN12 := Lib.hid (HN11.out.keep hb12)
      have HS12 := Lib.hid (HS11.out.keep hb12)
      have HM12 := Lib.hid (HM11.out.keep hb12)
      clear hb12 s0 s1 t3 t4 n1
      cases z
      case false =>
        clear hz
        go_wp2_with fail
        go_ret
        exact ⟨18, rfl, HB12.out, fun h => by cases h⟩
      have HSP : Hid (SpotR P sh.length sh.width gp x) := ⟨by rw [HF.out]; omega, HRS.out, by rw [HPE.out]; exact HRG.out, hz rfl⟩
      clear hz
      go_wp2_with fail
      go_loopw [14] (fun i wr => ∃ j : Nat, j ≤ k ∧ i = .int .i64 j ∧ Hid (Below w12.heap.size w12 wr) ∧ Hid (∀ n, n < j → SepR (mvO P (soi S n)) (mvH P (soi S n)) (mvO P x) (mvH P x))) (fun i _ => k - (intOf i).toNat)
      case atStart => exact ⟨0, Nat.zero_le _, rfl, Below.refl _ _, fun n h => by omega⟩
      case round =>
        obtain ⟨j, hj, rfl, hb, hA⟩ := hrel
        by_cases hlt : j < k
        · have i1 : (j : Int) < k := by omega
          obtain ⟨y, hy⟩ : ∃ y, soi S j = y := ⟨_, rfl⟩
          have HY := Lib.hid hy
          have HJ := Lib.hid (HE.out j hlt)
          rw [hy] at HJ
          clear hy
          obtain ⟨yb, yo, ey, hyc⟩ := S3.out j (by omega)
          cases ey
          rw [HY.out] at hyc
          have HYC := Lib.hid (hyc.keep (ext_trans HB12.out hb.out))
          obtain ⟨i', hi', hf', _⟩ : ∃ k : Nat, k < P.length ∧ findP P y.part = k ∧ (pri P k).id = y.part := by
            rcases findP_spec P y.part with h | h
            · have := HJ.out.f; omega
            · exact h
          have HF' := Lib.hid hf'
          obtain ⟨rb, ro, er, hrc⟩ := P3.out i' hi'
          cases er
          have HRC := Lib.hid (hrc.keep (ext_trans HB12.out hb.out))
          have HRO := Lib.hid (HPO.out i' hi')
          have HRE : Hid (prt P y = pri P i') := by show _ = _; unfold prt; rw [HF'.out]; rfl
          obtain ⟨ua, uc, eu, _⟩ := HRO.out.o
          obtain ⟨va, vc, ev, _⟩ := HRO.out.hs
          have HRU := Lib.hid eu
          have HRV := Lib.hid ev
          have HBW := Lib.hid (ext_trans HB12.out hb.out)
          have hjS : j < S.length := by omega
          have HRJ : Hid (Rgn (pri P i').outer (pri P i').holes) := by show Rgn ..; rw [← HRE.out]; exact HJ.out.s
          clear hyc hrc eu ev hf'
          go_upto_region 25 with fail
          refine wp_region_cn gmT gmT_ok [⟨w.heap.size, 0, [.string (bs nm), .int .i64 gp, .slice (some ⟨xb, xo, none⟩) S.length sc]⟩, ⟨xb, xo + j * 5, soCells y⟩, ⟨qb, qo + i' * 18, prCells (pri P i')⟩] [(4, 0)] [(94, .ix j 1), (97, .ret (.int .i64 (i' : Int))), (98, .ix i' 2), (104, .ix j 1)] [] 17 18 19 106 15 [100, 105] [(.agg #[(pri P i').ov, (pri P i').hv]), (.agg (soA y))] 47 (#[.slice none 0 0, .slice none 0 0]) aggC (fun v u => ∃ mv nv mvs, v = .agg #[mv, nv] ∧ OwnShp u 0 mv nv (mvO P y) (mvH P y) mvs)
            (by kernel_rfl) mixed (by kernel_rfl) (by kernel_rfl) (by decide)
            ⟨_, rfl, rfl, by decide, fun a u K h1 h2 hK => wp_of_enter (enters_call rfl rfl h1 (fun args w => enters_of Tryz.func35 (by kernel_rfl) rfl args w) u) ((rMove_any _ _ (pri P i').outer (pri P i').holes (pri P i').hvs y u (HRO.out.keep (ext_trans HBW.out h2)).shp (rgn_con HRJ.out).1 (rgn_con HRJ.out).2.1 (rgn_con HRJ.out).2.2 HJ.out.r).mono fun e u' ⟨mv, nv, mvs, he, hm, hb⟩ => ⟨_, he, hK _ u' ⟨mv, nv, mvs, rfl, by unfold mvO mvH; rw [HRE.out]; exact hm.mono (Nat.zero_le _)⟩ hb⟩)⟩ ⟨_, rfl, rfl, rfl⟩ ⟨_, rfl, rfl, rfl, ⟨⟨17, .data⟩, by simp, rfl, rfl⟩, ⟨18, .data⟩, by simp, rfl, rfl⟩
            (fun v u u' ⟨mv, nv, mvs, e, h⟩ hb => ⟨mv, nv, mvs, e, h.below hb⟩) (fun v u g cs ⟨mv, nv, mvs, e, h⟩ ho => ⟨mv, nv, mvs, e, h.row ho (by decide) (by decide) cs⟩) (fun v u ⟨mv, nv, mvs, e, h⟩ => by obtain ⟨a1, n1, c1, rfl⟩ := h.o.form; obtain ⟨a2, c2, rfl, _⟩ := h.h.sl; subst e; exact ⟨rfl, rfl, sl2_one _ _ _ _ _ _⟩) alloc_Shape (by kernel_rfl) (obsC (fun u hu => rangeKeep (range_new (HN12.out.keep hb.out)) hu) (obsC (fun u hu => rangeKeep (so_range HYC.out) hu) (obsC (fun u hu => rangeKeep (pr_range HRC.out) hu) obsN))) ⟨rfl, trivial⟩ ?_
          conv => whnf
          refine And.intro (under_of ⟨rfl, hjS, rfl, rfl⟩) ?_
          conv => whnf
          refine And.intro (under_of fun u hu => (by have := rFind_any _ P y.part u (HPP.out.keep (ext_trans HBW.out hu)) HPL.out; rw [HF'.out] at this; exact this)) ?_
          conv => whnf
          refine And.intro (under_of ⟨rfl, hi', rfl, rfl⟩) ?_
          conv => whnf
          refine And.intro (Nat.le_of_ble_eq_true rfl) ?_
          conv => whnf
          refine And.intro (under_of ⟨rfl, hjS, rfl, rfl⟩) ?_
          conv => whnf
          refine And.intro (Nat.le_of_ble_eq_true rfl) ?_
          conv => whnf
          refine And.intro ⟨rfl, rfl, trivial⟩ ?_
          intro f25
          conv => whnf
          intro w14 x14 g14 hb14 hg14 hv14 ho14 hf14
          obtain ⟨mv, nv, mvs2, rfl, hsh⟩ := hv14
          obtain ⟨a1, c1, rfl, _⟩ := hsh.o.s
          obtain ⟨a2, c2, rfl, _⟩ := hsh.h.sl
          rw [hf14]
          have HB14 := Lib.hid (ext_trans hb.out hb14)
          have HO14 : Hid (ObjAt w14 g14 #[.slice a1 (mvO P y).length c1, .slice a2 mvs2.length c2] 47) := ho14
          have HV14 := Lib.hid hsh.shp
          have HS14 := Lib.hid (HS12.out.keep HB14.out)
          have HN14 := Lib.hid (HN12.out.keep HB14.out)
          have HM14 := Lib.hid (HM12.out.keep HB14.out)
          clear hb14 ho14 hsh hf14
          have o0 := HO14.out.cell 0
          have o1 := HO14.out.cell 1
          have s0 := HS14.out.cell 0
          have s1 := HS14.out.cell 1
          have n1 := HN14.out.cell 1
          dsimp at o0 o1 s0 s1 n1
          go_wp2_with fail
          refine (rClear_any _ _ _ _ (mvO P y) (mvO P x) (mvH P y) (mvH P x) mvs2 mvs gp w14 HV14.out HM14.out HJ.out.rgn HSP.out.rgn).mono ?_
          rintro e w15 ⟨z, rfl, hb15, hz⟩
          have HB15 := Lib.hid (ext_trans HB14.out hb15)
          clear hb15 o0 o1 s0 s1 n1
          cases z
          case false =>
            clear hz
            have HBE := Lib.hid (ext_trans HB12.out HB15.out)
            go_wp2_with fail
            go_ret
            exact ⟨19, rfl, HBE.out, fun h => by cases h⟩
          have HZ := Lib.hid (hz rfl)
          clear hz
          have HA2 : Hid (∀ n, n < j + 1 → SepR (mvO P (soi S n)) (mvH P (soi S n)) (mvO P x) (mvH P x)) := fun n hn => by
            by_cases e : n = j
            · subst e; rw [HY.out]; exact HZ.out
            · exact hA.out n (by omega)
          go_wp2_with fail
          go_roundw
          case rel => exact ⟨j + 1, by omega, by go_num, HB15, HA2⟩
          case measure => simp [intOf]; omega
        · have i1 : ¬ (j : Int) < k := by omega
          have HBE := Lib.hid (ext_trans HB12.out hb.out)
          have HR : Hid (∀ n, n < k → SepR (mvO P (soi S n)) (mvH P (soi S n)) (mvO P x) (mvH P x)) := fun n hn => hA.out n (by omega)
          go_wp2_with fail
          go_ret
          exact ⟨0, rfl, HBE.out, fun _ => by rw [HXE.out]; exact ⟨HSP.out, HR.out⟩⟩
end Go.Proofs.YtfmhickjefogdaaGreat

/- Check of the reference's nest (printed by wip/gen_rmk3.py). -/
namespace Go.Proofs.YtfmhickjefogdaaGreat
open Go.RowKit

/-- a nest that is right -/
structure NestR (P : List Prt) (sh : Sht) (gp : Int) (S : List Spo) : Prop where
  g0 : 0 ≤ gp
  g1 : gp ≤ 500
  s : ∀ k, k < S.length → SpotR P sh.length sh.width gp (soi S k)
  p : ∀ k j, j < k → k < S.length → SepR (mvO P (soi S j)) (mvH P (soi S j)) (mvO P (soi S k)) (mvH P (soi S k))
def gapN (g : Int) : Bool := decide (g < 0) || decide (500 < g)
set_option maxRecDepth 100000 in
set_option maxHeartbeats 2000000 in
theorem rCheck23_any (nm : List UInt8) (gp : Int) (sv pv : Value) (S : List Spo) (sh : Sht) (P : List Prt) (w : World) (hs : SSo w sv S) (hp : SPr w pv P) (ho : ∀ i, i < P.length → PrtOK w (pri P i)) (hS : S.length ≤ 32) (hP : P.length ≤ 100000) :
    Calls Tryz.prog 4 #[.agg #[.string (bs nm), .int .i64 gp, sv], .agg (shtA sh), pv] w (RetN0 (NestR P sh gp S) w) := by
  have HSS := Lib.hid hs
  have HPP := Lib.hid hp
  have HPO := Lib.hid ho
  have HPL := Lib.hid hP
  obtain ⟨sa, sc, rfl, _, _, s3⟩ := hs
  clear ho s3 hp
  obtain ⟨W1, HN1, HT1, HB1, HW1⟩ := boxNS w nm gp sa S.length sc sh
  unfold shtA
  go_enter Tryz.func4, Tryz.ntmps4
  go_upto_region 1 with fail
  rw [HW1.out]
  refine wp_region_et gmT gmT_ok [⟨w.heap.size, 0, [.string (bs nm), .int .i64 gp, .slice sa S.length sc]⟩] (Below W1.heap.size W1) [(3, 0)] [] [(16, .bool (gapN gp))] (by kernel_rfl) (Below.refl _ _)
    (obsC (fun u hu => rangeKeep (range_new HN1.out) hu) obsN) ⟨rfl, trivial⟩ ?_
  conv => whnf
  intro f1
  conv => whnf
  refine And.intro (rfl) ?_
  conv => whnf
  intro w2 h2
  have HB2 := Lib.hid (ext_trans HB1.out h2)
  have HN2 := Lib.hid (HN1.out.keep h2)
  have HT2 := Lib.hid (HT1.out.keep h2)
  clear h2
  obtain ⟨z, hz⟩ : ∃ z, gapN gp = z := ⟨_, rfl⟩
  have HZ := Lib.hid hz
  rw [hz]
  clear hz
  cases z
  case true =>
    go_wp2_with fail
    go_ret
    exact ⟨9, rfl, HB2.out, fun h => by cases h⟩
  have n2 := HN2.out.cell 2
  dsimp at n2
  by_cases h0 : S.length = 0
  · have i0 : (S.length : Int) = 0 := by omega
    have i9 : ((S.length : Int) == 0) = true := beq_iff_eq.2 i0
    go_wp2_with fail
    go_ret
    exact ⟨3, rfl, HB2.out, fun h => by cases h⟩
  have i0 : ¬ (S.length : Int) = 0 := by omega
  have i8 : ¬ (32 : Int) < S.length := by omega
  go_wp2_with fail
  clear n2
  go_loopw [7] (fun i wr => ∃ k : Nat, k ≤ S.length ∧ i = .int .i64 k ∧ Hid (Below w.heap.size w wr) ∧ Hid (ObjAt wr w.heap.size #[.string (bs nm), .int .i64 gp, .slice sa S.length sc] 24) ∧ Hid (ObjAt wr (w.heap.size + 1) (shtA sh) 26) ∧ Hid (∀ j, j < k → SpotR P sh.length sh.width gp (soi S j)) ∧ Hid (∀ i j, j < i → i < k → SepR (mvO P (soi S j)) (mvH P (soi S j)) (mvO P (soi S i)) (mvH P (soi S i)))) (fun i _ => S.length - (intOf i).toNat)
  case atStart => exact ⟨0, Nat.zero_le _, rfl, HB2, HN2, HT2, fun j h => by omega, fun i j h1 h2 => by omega⟩
  case round =>
    obtain ⟨k, hk, rfl, hb, hn, ht, hA, hC⟩ := hrel
    have n0 := hn.out.cell 0
    have n1 := hn.out.cell 1
    have n2 := hn.out.cell 2
    have t0 := ht.out.cell 0
    have t1 := ht.out.cell 1
    have t2 := ht.out.cell 2
    have t3 := ht.out.cell 3
    have t4 := ht.out.cell 4
    have t5 := ht.out.cell 5
    simp only [shtA] at t0 t1 t2 t3 t4 t5
    dsimp at n0 n1 n2 t0 t1 t2 t3 t4 t5
    by_cases hlt : k < S.length
    · have i1 : (k : Int) < S.length := by omega
      go_wp2_with fail
      refine (rspot_any nm gp (.slice sa S.length sc) _ S sh P k wr (HSS.out.keep hb.out) (HPP.out.keep hb.out) (fun i hi => (HPO.out i hi).keep hb.out) hlt hS HPL.out hA.out).mono ?_
      rintro e w3 ⟨z, rfl, hb3, hz⟩
      have HB3 := Lib.hid (ext_trans hb.out hb3)
      have HN3 := Lib.hid (hn.out.keep hb3)
      have HT3 := Lib.hid (ht.out.keep hb3)
      clear hb3 n0 n1 n2 t0 t1 t2 t3 t4 t5
      by_cases ez : z = 0
      · have HZ1 := Lib.hid (hz ez).1
        have HZ2 := Lib.hid (hz ez).2
        subst ez
        clear hz
        have HA2 : Hid (∀ j, j < k + 1 → SpotR P sh.length sh.width gp (soi S j)) := fun j hj => by
          by_cases e : j = k
          · subst e; exact HZ1.out
          · exact hA.out j (by omega)
        have HC2 : Hid (∀ i j, j < i → i < k + 1 → SepR (mvO P (soi S j)) (mvH P (soi S j)) (mvO P (soi S i)) (mvH P (soi S i))) := fun i j h1 h2 => by
          by_cases e : i = k
          · subst e; exact HZ2.out j h1
          · exact hC.out i j h1 (by omega)
        go_wp2_with fail
        go_roundw
        case rel => exact ⟨k + 1, by omega, by go_num, HB3, HN3, HT3, HA2, HC2⟩
        case measure => simp [intOf]; omega
      · clear hz
        go_wp2_with fail
        go_ret
        exact ⟨z, rfl, HB3.out, fun h => absurd h ez⟩
    · have i1 : ¬ (k : Int) < S.length := by omega
      have HR : Hid (NestR P sh gp S) := by
        have hz := HZ.out
        unfold gapN at hz
        rw [Bool.or_eq_false_iff, decide_eq_false_iff_not, decide_eq_false_iff_not] at hz
        exact ⟨by omega, by omega, fun j hj => hA.out j (by omega), fun i j h1 h2 => hC.out i j h1 (by omega)⟩
      go_wp2_with fail
      go_ret
      exact ⟨0, rfl, hb.out, fun _ => HR.out⟩
end Go.Proofs.YtfmhickjefogdaaGreat

/- Points: cross, sign, within, on, meet, touch, far of the program (printed by wip/gen_poa.py). -/
namespace Go.Proofs.YtfmhickjefogdaaGreat
open Go.RowKit

theorem isNaN_int (x : Int) (w : World) : Calls Tryz.prog 144 #[.int .i64 x] w fun e w' => e = .returned (.bool false) ∧ w' = w := by
  have hx : (x != x) = false := by simp
  go_enter Tryz.func144, Tryz.ntmps144
  go_wp2_with fail
  go_ret
  exact ⟨rfl, rfl⟩
theorem sgn_sub (n : Int) : sgnP n = if n < 0 then -1 else if 0 < n then 1 else 0 := rfl
theorem compare_zero (a : Int) (w : World) : Calls Tryz.prog 149 #[.int .i64 a, .int .i64 0] w fun e w' => e = .returned (.int .i64 (sgnP a)) ∧ w' = w := by
  go_enter Tryz.func149, Tryz.ntmps149
  go_wp2_with fail
  refine (isNaN_int a w).mono ?_
  rintro e w1 ⟨rfl, rfl⟩
  go_wp2_with fail
  refine (isNaN_int 0 _).mono ?_
  rintro e w1 ⟨rfl, rfl⟩
  by_cases h1 : a < 0
  · have C : Hid (sgnP a = -1) := by show _ = _; rw [sgn_sub, if_pos h1]
    go_wp2_with fail
    go_ret
    exact ⟨ret_int C.out.symm, rfl⟩
  · by_cases h2 : 0 < a
    · have C : Hid (sgnP a = 1) := by show _ = _; rw [sgn_sub, if_neg h1, if_pos h2]
      go_wp2_with fail
      go_ret
      exact ⟨ret_int C.out.symm, rfl⟩
    · have C : Hid (sgnP a = 0) := by show _ = _; rw [sgn_sub, if_neg h1, if_neg h2]
      go_wp2_with fail
      go_ret
      exact ⟨ret_int C.out.symm, rfl⟩
theorem pSign_any (a : Int) (w : World) : Calls Tryz.prog 139 #[.int .i64 a] w (Ret w (.int .i64 (sgnP a))) := by
  go_enter Tryz.func139, Tryz.ntmps139
  go_wp2_with fail
  refine (compare_zero a w).mono ?_
  rintro e w1 ⟨rfl, rfl⟩
  go_wp2_with fail
  go_ret
  exact ⟨rfl, Below.refl _ _⟩
theorem min_max_sgn (a : Int) : min (max a (-1)) 1 = sgnP a := by unfold sgnP; split; · omega
                                                                  · split <;> omega
def winP (a b q : Pnt) : Bool := ((decide (min a.x b.x ≤ q.x) && decide (q.x ≤ max a.x b.x)) && decide (min a.y b.y ≤ q.y)) && decide (q.y ≤ max a.y b.y)
theorem pon_eq (a b q : Pnt) : (decide (turnP a b q = 0) && winP a b q) = onP q a b := by
  unfold winP onP
  rw [show (turnP a b q == 0) = decide (turnP a b q = 0) from rfl]
  simp only [Bool.and_assoc]
def meetM (a b c d : Pnt) : Bool := ((onP c a b || onP d a b) || onP a c d) || onP b c d
def oppM (a b c d : Pnt) : Bool := decide (IntKind.i64.wrap (sgnP (turnP a b c) * sgnP (turnP a b d)) < 0) && decide (IntKind.i64.wrap (sgnP (turnP c d a) * sgnP (turnP c d b)) < 0)
theorem meet_mo (a b c d : Pnt) : meetQ a b c d = (meetM a b c d || oppM a b c d) := by
  unfold meetQ meetM oppM
  simp only [onQ_eq]
def touM (a b c d : Pnt) : Bool := (((decide (sgnP (turnP a b c) = 0) && winP a b c) || (decide (sgnP (turnP a b d) = 0) && winP a b d)) || (decide (sgnP (turnP c d a) = 0) && winP c d a)) || (decide (sgnP (turnP c d b) = 0) && winP c d b)
theorem touM_eq (a b c d : Pnt) : touM a b c d = meetM a b c d := by
  have key : ∀ a b q : Pnt, (decide (sgnP (turnP a b q) = 0) && winP a b q) = onP q a b := fun a b q => by
    rw [← pon_eq, show decide (sgnP (turnP a b q) = 0) = decide (turnP a b q = 0) from sgn_zero _]
  unfold touM meetM
  rw [key, key, key, key]
theorem near_not (q : Pnt) : (((decide (q.x < -32768) || decide (32768 < q.x)) || decide (q.y < -32768)) || decide (32768 < q.y)) = !nearP q := by
  unfold nearP
  rw [Bool.eq_iff_iff]
  simp only [Bool.or_eq_true, decide_eq_true_eq, Bool.not_eq_true', Bool.and_eq_false_iff, decide_eq_false_iff_not]
  omega
set_option maxRecDepth 100000 in
set_option maxHeartbeats 1000000 in
theorem pCross_any (a b c : Pnt) (w : World) : Calls Tryz.prog 89 #[ptV a, ptV b, ptV c] w (Ret w (.int .i64 (turnP a b c))) := by
  obtain ⟨W1, HOa, HOb, HOc, HB, HW⟩ := boxP3 w a b c
  unfold ptV
  go_enter Tryz.func89, Tryz.ntmps89
  go_upto_region 1 with fail
  rw [HW.out]
  refine wp_region_et gmT gmT_ok [⟨w.heap.size, 0, (ptA a).toList⟩, ⟨w.heap.size + 1, 0, (ptA b).toList⟩, ⟨w.heap.size + 1 + 1, 0, (ptA c).toList⟩] (Below W1.heap.size W1) [(3, 0), (4, 1), (5, 2)] [] [(6, .int .i64 (turnP a b c))] (by kernel_rfl) (Below.refl _ _)
    (obsC (fun u hu => rangeKeep (range_new HOa.out) hu) (obsC (fun u hu => rangeKeep (range_new HOb.out) hu) (obsC (fun u hu => rangeKeep (range_new HOc.out) hu) obsN))) ⟨rfl, rfl, rfl, trivial⟩ ?_
  conv => whnf
  intro f1
  conv => whnf
  refine And.intro (rfl) ?_
  conv => whnf
  intro w2 h2
  have HB2 := Lib.hid (ext_trans HB.out h2)
  go_wp2_with fail
  go_ret
  exact ⟨rfl, HB2.out⟩
set_option maxRecDepth 100000 in
set_option maxHeartbeats 1000000 in
theorem gCross_any (a b c : Pnt) (w : World) : Calls Tryz.prog 58 #[ptV a, ptV b, ptV c] w (Ret w (.int .i64 (turnP a b c))) := by
  obtain ⟨W1, HOa, HOb, HOc, HB, HW⟩ := boxP3 w a b c
  unfold ptV
  go_enter Tryz.func58, Tryz.ntmps58
  go_upto_region 1 with fail
  rw [HW.out]
  refine wp_region_et gmT gmT_ok [⟨w.heap.size, 0, (ptA a).toList⟩, ⟨w.heap.size + 1, 0, (ptA b).toList⟩, ⟨w.heap.size + 1 + 1, 0, (ptA c).toList⟩] (Below W1.heap.size W1) [(3, 0), (4, 1), (5, 2)] [] [(6, .int .i64 (turnP a b c))] (by kernel_rfl) (Below.refl _ _)
    (obsC (fun u hu => rangeKeep (range_new HOa.out) hu) (obsC (fun u hu => rangeKeep (range_new HOb.out) hu) (obsC (fun u hu => rangeKeep (range_new HOc.out) hu) obsN))) ⟨rfl, rfl, rfl, trivial⟩ ?_
  conv => whnf
  intro f1
  conv => whnf
  refine And.intro (rfl) ?_
  conv => whnf
  intro w2 h2
  have HB2 := Lib.hid (ext_trans HB.out h2)
  go_wp2_with fail
  go_ret
  exact ⟨rfl, HB2.out⟩
set_option maxRecDepth 100000 in
set_option maxHeartbeats 1000000 in
theorem pWithin_any (a b c : Pnt) (w : World) : Calls Tryz.prog 113 #[ptV a, ptV b, ptV c] w (Ret w (.bool (winP a b c))) := by
  obtain ⟨W1, HOa, HOb, HOc, HB, HW⟩ := boxP3 w a b c
  unfold ptV
  go_enter Tryz.func113, Tryz.ntmps113
  go_upto_region 1 with fail
  rw [HW.out]
  refine wp_region_et gmT gmT_ok [⟨w.heap.size, 0, (ptA a).toList⟩, ⟨w.heap.size + 1, 0, (ptA b).toList⟩, ⟨w.heap.size + 1 + 1, 0, (ptA c).toList⟩] (Below W1.heap.size W1) [(3, 0), (4, 1), (5, 2)] [] [(6, .bool (winP a b c))] (by kernel_rfl) (Below.refl _ _)
    (obsC (fun u hu => rangeKeep (range_new HOa.out) hu) (obsC (fun u hu => rangeKeep (range_new HOb.out) hu) (obsC (fun u hu => rangeKeep (range_new HOc.out) hu) obsN))) ⟨rfl, rfl, rfl, trivial⟩ ?_
  conv => whnf
  intro f1
  conv => whnf
  refine And.intro (rfl) ?_
  conv => whnf
  intro w2 h2
  have HB2 := Lib.hid (ext_trans HB.out h2)
  go_wp2_with fail
  go_ret
  exact ⟨rfl, HB2.out⟩
set_option maxRecDepth 100000 in
set_option maxHeartbeats 1000000 in
theorem gOn_any (a b c : Pnt) (w : World) : Calls Tryz.prog 59 #[ptV a, ptV b, ptV c] w (Ret w (.bool (winP a b c))) := by
  obtain ⟨W1, HOa, HOb, HOc, HB, HW⟩ := boxP3 w a b c
  unfold ptV
  go_enter Tryz.func59, Tryz.ntmps59
  go_upto_region 1 with fail
  rw [HW.out]
  refine wp_region_et gmT gmT_ok [⟨w.heap.size, 0, (ptA a).toList⟩, ⟨w.heap.size + 1, 0, (ptA b).toList⟩, ⟨w.heap.size + 1 + 1, 0, (ptA c).toList⟩] (Below W1.heap.size W1) [(3, 0), (4, 1), (5, 2)] [] [(6, .bool (winP a b c))] (by kernel_rfl) (Below.refl _ _)
    (obsC (fun u hu => rangeKeep (range_new HOa.out) hu) (obsC (fun u hu => rangeKeep (range_new HOb.out) hu) (obsC (fun u hu => rangeKeep (range_new HOc.out) hu) obsN))) ⟨rfl, rfl, rfl, trivial⟩ ?_
  conv => whnf
  intro f1
  conv => whnf
  refine And.intro (rfl) ?_
  conv => whnf
  intro w2 h2
  have HB2 := Lib.hid (ext_trans HB.out h2)
  go_wp2_with fail
  go_ret
  exact ⟨rfl, HB2.out⟩
set_option maxRecDepth 100000 in
set_option maxHeartbeats 1000000 in
theorem pOn_any (a b c : Pnt) (w : World) : Calls Tryz.prog 88 #[ptV a, ptV b, ptV c] w (Ret w (.bool (onP c a b))) := by
  obtain ⟨W1, HOa, HOb, HOc, HB, HW⟩ := boxP3 w a b c
  unfold ptV
  go_enter Tryz.func88, Tryz.ntmps88
  go_upto_region 1 with fail
  rw [HW.out]
  refine wp_region_et gmT gmT_ok [⟨w.heap.size, 0, (ptA a).toList⟩, ⟨w.heap.size + 1, 0, (ptA b).toList⟩, ⟨w.heap.size + 1 + 1, 0, (ptA c).toList⟩] (Below W1.heap.size W1) [(3, 0), (4, 1), (5, 2)] [(10, .ret (.int .i64 (turnP a b c))), (16, .ret (.bool (winP a b c)))] [(6, .bool (onP c a b))] (by kernel_rfl) (Below.refl _ _)
    (obsC (fun u hu => rangeKeep (range_new HOa.out) hu) (obsC (fun u hu => rangeKeep (range_new HOb.out) hu) (obsC (fun u hu => rangeKeep (range_new HOc.out) hu) obsN))) ⟨rfl, rfl, rfl, trivial⟩ ?_
  conv => whnf
  refine And.intro (Nat.le_of_ble_eq_true rfl) ?_
  conv => whnf
  refine And.intro (Nat.le_of_ble_eq_true rfl) ?_
  conv => whnf
  refine And.intro (Nat.le_of_ble_eq_true rfl) ?_
  conv => whnf
  refine And.intro (under_of fun u hu => ret_in (pCross_any _ _ _ u) hu) ?_
  conv => whnf
  refine And.intro (Nat.le_of_ble_eq_true rfl) ?_
  conv => whnf
  refine And.intro (Nat.le_of_ble_eq_true rfl) ?_
  conv => whnf
  refine And.intro (Nat.le_of_ble_eq_true rfl) ?_
  conv => whnf
  refine And.intro (under_of fun u hu => ret_in (pWithin_any _ _ _ u) hu) ?_
  conv => whnf
  intro f1
  conv => whnf
  refine And.intro (congrArg Value.bool (pon_eq a b c)) ?_
  conv => whnf
  intro w2 h2
  have HB2 := Lib.hid (ext_trans HB.out h2)
  go_wp2_with fail
  go_ret
  exact ⟨rfl, HB2.out⟩
set_option maxRecDepth 100000 in
set_option maxHeartbeats 1000000 in
theorem pFar_any (a : Pnt) (w : World) : Calls Tryz.prog 85 #[ptV a] w (Ret w (.bool (!nearP a))) := by
  obtain ⟨W1, HOa, HB, HW⟩ := boxP1 w a
  unfold ptV
  go_enter Tryz.func85, Tryz.ntmps85
  go_upto_region 1 with fail
  rw [HW.out]
  refine wp_region_et gmT gmT_ok [⟨w.heap.size, 0, (ptA a).toList⟩] (Below W1.heap.size W1) [(1, 0)] [] [(2, .bool (!nearP a))] (by kernel_rfl) (Below.refl _ _)
    (obsC (fun u hu => rangeKeep (range_new HOa.out) hu) obsN) ⟨rfl, trivial⟩ ?_
  conv => whnf
  intro f1
  conv => whnf
  refine And.intro (congrArg Value.bool (near_not a)) ?_
  conv => whnf
  intro w2 h2
  have HB2 := Lib.hid (ext_trans HB.out h2)
  go_wp2_with fail
  go_ret
  exact ⟨rfl, HB2.out⟩
set_option maxRecDepth 100000 in
set_option maxHeartbeats 1000000 in
theorem gFar_any (a : Pnt) (w : World) : Calls Tryz.prog 41 #[ptV a] w (Ret w (.bool (farP a))) := by
  obtain ⟨W1, HOa, HB, HW⟩ := boxP1 w a
  unfold ptV
  go_enter Tryz.func41, Tryz.ntmps41
  go_upto_region 1 with fail
  rw [HW.out]
  refine wp_region_et gmT gmT_ok [⟨w.heap.size, 0, (ptA a).toList⟩] (Below W1.heap.size W1) [(1, 0)] [] [(2, .bool (farP a))] (by kernel_rfl) (Below.refl _ _)
    (obsC (fun u hu => rangeKeep (range_new HOa.out) hu) obsN) ⟨rfl, trivial⟩ ?_
  conv => whnf
  intro f1
  conv => whnf
  refine And.intro (rfl) ?_
  conv => whnf
  intro w2 h2
  have HB2 := Lib.hid (ext_trans HB.out h2)
  go_wp2_with fail
  go_ret
  exact ⟨rfl, HB2.out⟩
set_option maxRecDepth 100000 in
theorem gSign_any (a : Int) (w : World) : Calls Tryz.prog 57 #[.int .i64 a] w (Ret w (.int .i64 (sgnP a))) := by
  go_enter Tryz.func57, Tryz.ntmps57
  go_upto_region 1 with fail
  refine wp_region_et gmT gmT_ok [] (Below w.heap.size w) [] [] [(2, .int .i64 (sgnP a))] (by kernel_rfl) (Below.refl _ _)
    obsN trivial ?_
  conv => whnf
  intro f1
  conv => whnf
  refine And.intro (congrArg (Value.int .i64) (min_max_sgn a)) ?_
  conv => whnf
  intro w2 h2
  go_wp2_with fail
  go_ret
  exact ⟨rfl, h2⟩
set_option maxRecDepth 100000 in
set_option maxHeartbeats 1000000 in
theorem pMeet_any (a b c d : Pnt) (w : World) : Calls Tryz.prog 112 #[ptV a, ptV b, ptV c, ptV d] w (Ret w (.bool (meetQ a b c d))) := by
  obtain ⟨W1, HOa, HOb, HOc, HOd, HB, HW⟩ := boxP4 w a b c d
  unfold ptV
  go_enter Tryz.func112, Tryz.ntmps112
  go_upto_region 1 with fail
  rw [HW.out]
  refine wp_region_et gmT gmT_ok [⟨w.heap.size, 0, (ptA a).toList⟩, ⟨w.heap.size + 1, 0, (ptA b).toList⟩, ⟨w.heap.size + 1 + 1, 0, (ptA c).toList⟩, ⟨w.heap.size + 1 + 1 + 1, 0, (ptA d).toList⟩] (Below W1.heap.size W1) [(4, 0), (5, 1), (6, 2), (7, 3)] [(12, .ret (.bool (onP c a b))), (17, .ret (.bool (onP d a b))), (23, .ret (.bool (onP a c d))), (29, .ret (.bool (onP b c d)))] [(30, .bool (meetM a b c d))] (by kernel_rfl) (Below.refl _ _)
    (obsC (fun u hu => rangeKeep (range_new HOa.out) hu) (obsC (fun u hu => rangeKeep (range_new HOb.out) hu) (obsC (fun u hu => rangeKeep (range_new HOc.out) hu) (obsC (fun u hu => rangeKeep (range_new HOd.out) hu) obsN)))) ⟨rfl, rfl, rfl, rfl, trivial⟩ ?_
  conv => whnf
  refine And.intro (Nat.le_of_ble_eq_true rfl) ?_
  conv => whnf
  refine And.intro (Nat.le_of_ble_eq_true rfl) ?_
  conv => whnf
  refine And.intro (Nat.le_of_ble_eq_true rfl) ?_
  conv => whnf
  refine And.intro (under_of fun u hu => ret_in (pOn_any _ _ _ u) hu) ?_
  conv => whnf
  refine And.intro (Nat.le_of_ble_eq_true rfl) ?_
  conv => whnf
  refine And.intro (Nat.le_of_ble_eq_true rfl) ?_
  conv => whnf
  refine And.intro (Nat.le_of_ble_eq_true rfl) ?_
  conv => whnf
  refine And.intro (under_of fun u hu => ret_in (pOn_any _ _ _ u) hu) ?_
  conv => whnf
  refine And.intro (Nat.le_of_ble_eq_true rfl) ?_
  conv => whnf
  refine And.intro (Nat.le_of_ble_eq_true rfl) ?_
  conv => whnf
  refine And.intro (Nat.le_of_ble_eq_true rfl) ?_
  conv => whnf
  refine And.intro (under_of fun u hu => ret_in (pOn_any _ _ _ u) hu) ?_
  conv => whnf
  refine And.intro (Nat.le_of_ble_eq_true rfl) ?_
  conv => whnf
  refine And.intro (Nat.le_of_ble_eq_true rfl) ?_
  conv => whnf
  refine And.intro (Nat.le_of_ble_eq_true rfl) ?_
  conv => whnf
  refine And.intro (under_of fun u hu => ret_in (pOn_any _ _ _ u) hu) ?_
  conv => whnf
  intro f1
  conv => whnf
  refine And.intro (rfl) ?_
  conv => whnf
  intro w2 h2
  have HB2 := Lib.hid (ext_trans HB.out h2)
  have HOa2 := Lib.hid (HOa.out.keep h2)
  have HOb2 := Lib.hid (HOb.out.keep h2)
  have HOc2 := Lib.hid (HOc.out.keep h2)
  have HOd2 := Lib.hid (HOd.out.keep h2)
  clear h2
  obtain ⟨z, hz⟩ : ∃ z, meetM a b c d = z := ⟨_, rfl⟩
  have HZ := Lib.hid hz
  rw [hz]
  clear hz
  have HM : Hid (meetQ a b c d = (z || oppM a b c d)) := by show _ = _; rw [meet_mo, HZ.out]
  cases z
  case true =>
    go_wp2_with fail
    go_ret
    exact ⟨ret_bool (by rw [HM.out]; rfl), HB2.out⟩
  go_upto_region 3 with fail
  refine wp_region_ev gmT gmT_ok [⟨w.heap.size, 0, (ptA a).toList⟩, ⟨w.heap.size + 1, 0, (ptA b).toList⟩, ⟨w.heap.size + 1 + 1, 0, (ptA c).toList⟩, ⟨w.heap.size + 1 + 1 + 1, 0, (ptA d).toList⟩] (Below w2.heap.size w2) [(4, 0), (5, 1), (6, 2), (7, 3)] [(34, .ret (.int .i64 (turnP a b c))), (35, .ret (.int .i64 (sgnP (turnP a b c)))), (39, .ret (.int .i64 (turnP a b d))), (40, .ret (.int .i64 (sgnP (turnP a b d)))), (47, .ret (.int .i64 (turnP c d a))), (48, .ret (.int .i64 (sgnP (turnP c d a)))), (52, .ret (.int .i64 (turnP c d b))), (53, .ret (.int .i64 (sgnP (turnP c d b))))] [(8, .bool (oppM a b c d))] (by kernel_rfl) mixed (by kernel_rfl) ((Below.refl _ _).drew)
    (obsC (fun u hu => rangeKeep (range_new HOa2.out) hu) (obsC (fun u hu => rangeKeep (range_new HOb2.out) hu) (obsC (fun u hu => rangeKeep (range_new HOc2.out) hu) (obsC (fun u hu => rangeKeep (range_new HOd2.out) hu) obsN)))) ⟨rfl, rfl, rfl, rfl, trivial⟩ ?_
  conv => whnf
  refine And.intro (Nat.le_of_ble_eq_true rfl) ?_
  conv => whnf
  refine And.intro (Nat.le_of_ble_eq_true rfl) ?_
  conv => whnf
  refine And.intro (Nat.le_of_ble_eq_true rfl) ?_
  conv => whnf
  refine And.intro (under_of fun u hu => ret_in (pCross_any _ _ _ u) hu) ?_
  conv => whnf
  refine And.intro (under_of fun u hu => ret_in (pSign_any _ u) hu) ?_
  conv => whnf
  refine And.intro (Nat.le_of_ble_eq_true rfl) ?_
  conv => whnf
  refine And.intro (Nat.le_of_ble_eq_true rfl) ?_
  conv => whnf
  refine And.intro (Nat.le_of_ble_eq_true rfl) ?_
  conv => whnf
  refine And.intro (under_of fun u hu => ret_in (pCross_any _ _ _ u) hu) ?_
  conv => whnf
  refine And.intro (under_of fun u hu => ret_in (pSign_any _ u) hu) ?_
  conv => whnf
  refine And.intro (Nat.le_of_ble_eq_true rfl) ?_
  conv => whnf
  refine And.intro (Nat.le_of_ble_eq_true rfl) ?_
  conv => whnf
  refine And.intro (Nat.le_of_ble_eq_true rfl) ?_
  conv => whnf
  refine And.intro (under_of fun u hu => ret_in (pCross_any _ _ _ u) hu) ?_
  conv => whnf
  refine And.intro (under_of fun u hu => ret_in (pSign_any _ u) hu) ?_
  conv => whnf
  refine And.intro (Nat.le_of_ble_eq_true rfl) ?_
  conv => whnf
  refine And.intro (Nat.le_of_ble_eq_true rfl) ?_
  conv => whnf
  refine And.intro (Nat.le_of_ble_eq_true rfl) ?_
  conv => whnf
  refine And.intro (under_of fun u hu => ret_in (pCross_any _ _ _ u) hu) ?_
  conv => whnf
  refine And.intro (under_of fun u hu => ret_in (pSign_any _ u) hu) ?_
  conv => whnf
  intro f3
  conv => whnf
  refine And.intro (rfl) ?_
  conv => whnf
  intro w3 h3
  have HB3 := Lib.hid (ext_trans HB2.out h3)
  clear h3
  go_wp2_with fail
  go_ret
  exact ⟨ret_bool (by rw [HM.out]; rfl), HB3.out⟩
set_option maxRecDepth 100000 in
set_option maxHeartbeats 1000000 in
theorem gTouch_any (a b c d : Pnt) (w : World) : Calls Tryz.prog 27 #[ptV a, ptV b, ptV c, ptV d] w (Ret w (.bool (meetQ a b c d))) := by
  obtain ⟨W1, HOa, HOb, HOc, HOd, HB, HW⟩ := boxP4 w a b c d
  unfold ptV
  go_enter Tryz.func27, Tryz.ntmps27
  go_upto_region 1 with fail
  rw [HW.out]
  refine wp_region_ev gmT gmT_ok [⟨w.heap.size, 0, (ptA a).toList⟩, ⟨w.heap.size + 1, 0, (ptA b).toList⟩, ⟨w.heap.size + 1 + 1, 0, (ptA c).toList⟩, ⟨w.heap.size + 1 + 1 + 1, 0, (ptA d).toList⟩] (Below W1.heap.size W1) [(4, 0), (5, 1), (6, 2), (7, 3)] [(16, .ret (.int .i64 (turnP a b c))), (17, .ret (.int .i64 (sgnP (turnP a b c)))), (21, .ret (.int .i64 (turnP a b d))), (22, .ret (.int .i64 (sgnP (turnP a b d))))] [(9, .int .i64 (sgnP (turnP a b c))), (10, .int .i64 (sgnP (turnP a b d)))] (by kernel_rfl) mixed (by kernel_rfl) ((Below.refl _ _).drew)
    (obsC (fun u hu => rangeKeep (range_new HOa.out) hu) (obsC (fun u hu => rangeKeep (range_new HOb.out) hu) (obsC (fun u hu => rangeKeep (range_new HOc.out) hu) (obsC (fun u hu => rangeKeep (range_new HOd.out) hu) obsN)))) ⟨rfl, rfl, rfl, rfl, trivial⟩ ?_
  conv => whnf
  refine And.intro (Nat.le_of_ble_eq_true rfl) ?_
  conv => whnf
  refine And.intro (Nat.le_of_ble_eq_true rfl) ?_
  conv => whnf
  refine And.intro (Nat.le_of_ble_eq_true rfl) ?_
  conv => whnf
  refine And.intro (under_of fun u hu => ret_in (gCross_any _ _ _ u) hu) ?_
  conv => whnf
  refine And.intro (under_of fun u hu => ret_in (gSign_any _ u) hu) ?_
  conv => whnf
  refine And.intro (Nat.le_of_ble_eq_true rfl) ?_
  conv => whnf
  refine And.intro (Nat.le_of_ble_eq_true rfl) ?_
  conv => whnf
  refine And.intro (Nat.le_of_ble_eq_true rfl) ?_
  conv => whnf
  refine And.intro (under_of fun u hu => ret_in (gCross_any _ _ _ u) hu) ?_
  conv => whnf
  refine And.intro (under_of fun u hu => ret_in (gSign_any _ u) hu) ?_
  conv => whnf
  intro f1
  conv => whnf
  refine And.intro (rfl) ?_
  conv => whnf
  refine And.intro (rfl) ?_
  conv => whnf
  intro w2 h2
  have HB2 := Lib.hid (ext_trans HB.out h2)
  have HOa2 := Lib.hid (HOa.out.keep h2)
  have HOb2 := Lib.hid (HOb.out.keep h2)
  have HOc2 := Lib.hid (HOc.out.keep h2)
  have HOd2 := Lib.hid (HOd.out.keep h2)
  clear h2
  go_upto_region 2 with fail
  refine wp_region_ev gmT gmT_ok [⟨w.heap.size, 0, (ptA a).toList⟩, ⟨w.heap.size + 1, 0, (ptA b).toList⟩, ⟨w.heap.size + 1 + 1, 0, (ptA c).toList⟩, ⟨w.heap.size + 1 + 1 + 1, 0, (ptA d).toList⟩] (Below w2.heap.size w2) [(4, 0), (5, 1), (6, 2), (7, 3)] [(26, .ret (.int .i64 (turnP c d a))), (27, .ret (.int .i64 (sgnP (turnP c d a)))), (31, .ret (.int .i64 (turnP c d b))), (32, .ret (.int .i64 (sgnP (turnP c d b))))] [(11, .int .i64 (sgnP (turnP c d a))), (12, .int .i64 (sgnP (turnP c d b)))] (by kernel_rfl) mixed (by kernel_rfl) ((Below.refl _ _).drew)
    (obsC (fun u hu => rangeKeep (range_new HOa2.out) hu) (obsC (fun u hu => rangeKeep (range_new HOb2.out) hu) (obsC (fun u hu => rangeKeep (range_new HOc2.out) hu) (obsC (fun u hu => rangeKeep (range_new HOd2.out) hu) obsN)))) ⟨rfl, rfl, rfl, rfl, trivial⟩ ?_
  conv => whnf
  refine And.intro (Nat.le_of_ble_eq_true rfl) ?_
  conv => whnf
  refine And.intro (Nat.le_of_ble_eq_true rfl) ?_
  conv => whnf
  refine And.intro (Nat.le_of_ble_eq_true rfl) ?_
  conv => whnf
  refine And.intro (under_of fun u hu => ret_in (gCross_any _ _ _ u) hu) ?_
  conv => whnf
  refine And.intro (under_of fun u hu => ret_in (gSign_any _ u) hu) ?_
  conv => whnf
  refine And.intro (Nat.le_of_ble_eq_true rfl) ?_
  conv => whnf
  refine And.intro (Nat.le_of_ble_eq_true rfl) ?_
  conv => whnf
  refine And.intro (Nat.le_of_ble_eq_true rfl) ?_
  conv => whnf
  refine And.intro (under_of fun u hu => ret_in (gCross_any _ _ _ u) hu) ?_
  conv => whnf
  refine And.intro (under_of fun u hu => ret_in (gSign_any _ u) hu) ?_
  conv => whnf
  intro f3
  conv => whnf
  refine And.intro (rfl) ?_
  conv => whnf
  refine And.intro (rfl) ?_
  conv => whnf
  intro w3 h3
  have HB3 := Lib.hid (ext_trans HB2.out h3)
  have HOa3 := Lib.hid (HOa2.out.keep h3)
  have HOb3 := Lib.hid (HOb2.out.keep h3)
  have HOc3 := Lib.hid (HOc2.out.keep h3)
  have HOd3 := Lib.hid (HOd2.out.keep h3)
  clear h3
  go_upto_region 3 with fail
  refine wp_region_et gmT gmT_ok [] (Below w3.heap.size w3) [] [] [(42, .bool (oppM a b c d))] (by kernel_rfl) (Below.refl _ _)
    obsN trivial ?_
  conv => whnf
  intro f4
  conv => whnf
  refine And.intro (rfl) ?_
  conv => whnf
  intro w4 h4
  have HB4 := Lib.hid (ext_trans HB3.out h4)
  have HOa4 := Lib.hid (HOa3.out.keep h4)
  have HOb4 := Lib.hid (HOb3.out.keep h4)
  have HOc4 := Lib.hid (HOc3.out.keep h4)
  have HOd4 := Lib.hid (HOd3.out.keep h4)
  clear h4
  obtain ⟨z, hz⟩ : ∃ z, oppM a b c d = z := ⟨_, rfl⟩
  have HZ := Lib.hid hz
  rw [hz]
  clear hz
  have HM : Hid (meetQ a b c d = (touM a b c d || z)) := by show _ = _; rw [meet_mo, HZ.out, touM_eq]
  cases z
  case true =>
    go_wp2_with fail
    go_ret
    exact ⟨ret_bool (by rw [HM.out, Bool.or_true]), HB4.out⟩
  go_upto_region 5 with fail
  refine wp_region_et gmT gmT_ok [⟨w.heap.size, 0, (ptA a).toList⟩, ⟨w.heap.size + 1, 0, (ptA b).toList⟩, ⟨w.heap.size + 1 + 1, 0, (ptA c).toList⟩, ⟨w.heap.size + 1 + 1 + 1, 0, (ptA d).toList⟩] (Below w4.heap.size w4) [(4, 0), (5, 1), (6, 2), (7, 3)] [(49, .ret (.bool (winP a b c))), (58, .ret (.bool (winP a b d))), (68, .ret (.bool (winP c d a))), (78, .ret (.bool (winP c d b)))] [(8, .bool (touM a b c d))] (by kernel_rfl) (Below.refl _ _)
    (obsC (fun u hu => rangeKeep (range_new HOa4.out) hu) (obsC (fun u hu => rangeKeep (range_new HOb4.out) hu) (obsC (fun u hu => rangeKeep (range_new HOc4.out) hu) (obsC (fun u hu => rangeKeep (range_new HOd4.out) hu) obsN)))) ⟨rfl, rfl, rfl, rfl, trivial⟩ ?_
  conv => whnf
  refine And.intro (Nat.le_of_ble_eq_true rfl) ?_
  conv => whnf
  refine And.intro (Nat.le_of_ble_eq_true rfl) ?_
  conv => whnf
  refine And.intro (Nat.le_of_ble_eq_true rfl) ?_
  conv => whnf
  refine And.intro (under_of fun u hu => ret_in (gOn_any _ _ _ u) hu) ?_
  conv => whnf
  refine And.intro (Nat.le_of_ble_eq_true rfl) ?_
  conv => whnf
  refine And.intro (Nat.le_of_ble_eq_true rfl) ?_
  conv => whnf
  refine And.intro (Nat.le_of_ble_eq_true rfl) ?_
  conv => whnf
  refine And.intro (under_of fun u hu => ret_in (gOn_any _ _ _ u) hu) ?_
  conv => whnf
  refine And.intro (Nat.le_of_ble_eq_true rfl) ?_
  conv => whnf
  refine And.intro (Nat.le_of_ble_eq_true rfl) ?_
  conv => whnf
  refine And.intro (Nat.le_of_ble_eq_true rfl) ?_
  conv => whnf
  refine And.intro (under_of fun u hu => ret_in (gOn_any _ _ _ u) hu) ?_
  conv => whnf
  refine And.intro (Nat.le_of_ble_eq_true rfl) ?_
  conv => whnf
  refine And.intro (Nat.le_of_ble_eq_true rfl) ?_
  conv => whnf
  refine And.intro (Nat.le_of_ble_eq_true rfl) ?_
  conv => whnf
  refine And.intro (under_of fun u hu => ret_in (gOn_any _ _ _ u) hu) ?_
  conv => whnf
  intro f5
  conv => whnf
  refine And.intro (rfl) ?_
  conv => whnf
  intro w5 h5
  have HB5 := Lib.hid (ext_trans HB4.out h5)
  clear h5
  go_wp2_with fail
  go_ret
  exact ⟨ret_bool (by rw [HM.out, Bool.or_false]), HB5.out⟩
end Go.Proofs.YtfmhickjefogdaaGreat
