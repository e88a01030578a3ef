/- Contract: Add. -/
import Derived.Test.YtjbegegjpepkjaaDoorTraF
import Derived.Deep.RegionHeld3
import Derived.StillTailTactics
import Derived.Lib.Join
namespace Go.Proofs.YtjbegegjpepkjaaDoor
open Go.RowKit Go.Maps

/-- the register's own blocks -/
def RB (rb bm : Nat) (v : Value) (k : Nat) : Prop := k = rb ∨ k = bm ∨ v.ownBlock = some k
def RegS (S : Nat → Prop) (B rb : Nat) (l : List Lnk) (w : World) : Prop := ∃ bm v D, RegM B rb bm v D l w ∧ S = RB rb bm v
theorem RegS.reg {S : Nat → Prop} {B rb : Nat} {l : List Lnk} {w : World} (h : RegS S B rb l w) : RegW B rb l w := by obtain ⟨bm, v, D, h, _⟩ := h; exact ⟨bm, v, D, h⟩
theorem RegS.keep {S : Nat → Prop} {B rb : Nat} {l : List Lnk} {w w' : World} (h : RegS S B rb l w) (hb : Below w.heap.size w w') : RegS S B rb l w' := by
  obtain ⟨bm, v, D, h, e⟩ := h; exact ⟨bm, v, D, h.keep hb, e⟩
theorem RegS.lt {S : Nat → Prop} {B rb : Nat} {l : List Lnk} {w : World} (h : RegS S B rb l w) : ∀ k, S k → B ≤ k ∧ k < w.heap.size := by
  obtain ⟨bm, v, D, h, rfl⟩ := h
  intro k hk
  rcases hk with rfl | rfl | hk
  · exact ⟨h.h1, h.lt⟩
  · exact ⟨h.h2, h.mp.lt⟩
  · exact h.own.lt k hk
/-- w' is w with new blocks and writes to blocks in S -/
structure Out (S : Nat → Prop) (w w' : World) : Prop where
  os : w'.os = w.os
  tape : w'.tape = w.tape
  output : w'.output = w.output
  size : w.heap.size ≤ w'.heap.size
  block : ∀ k, k < w.heap.size → ¬ S k → w'.heap[k]? = w.heap[k]?
theorem Out.of_below {S : Nat → Prop} {w w' : World} (h : Below w.heap.size w w') : Out S w w' := ⟨h.os, h.tape, h.output, h.size, fun k hk _ => h.block k hk⟩
theorem Out.grown {S : Nat → Prop} {w w1 w2 : World} {row : Option Nat} (h : Out S w w1) (g : w1.grownBy w2 row) (hr : ∀ k, row = some k → S k ∨ w.heap.size ≤ k) : Out S w w2 :=
  ⟨g.os.trans h.os, g.tape.trans h.tape, g.output.trans h.output, Nat.le_trans h.size g.size, fun k hk hn => by
    rw [g.block k (Nat.lt_of_lt_of_le hk h.size) (fun e => by rcases hr k e.symm with h1 | h1; exact hn h1; omega)]; exact h.block k hk hn⟩
theorem Out.below {S : Nat → Prop} {w w1 w2 : World} (h : Out S w w1) (g : Below w.heap.size w1 w2) : Out S w w2 :=
  ⟨g.os.trans h.os, g.tape.trans h.tape, g.output.trans h.output, Nat.le_trans h.size g.size, fun k hk hn => (g.block k hk).trans (h.block k hk hn)⟩
theorem Out.base {S : Nat → Prop} {B : Nat} {w w' : World} (h : Out S w w') (hS : ∀ k, S k → B ≤ k) (hB : B ≤ w.heap.size) : Below B w w' :=
  ⟨h.os, h.tape, h.output, h.size, fun k hk => h.block k (by omega) (fun e => by have := hS k e; omega)⟩
theorem Out.trans {S S' : Nat → Prop} {w w1 w2 : World} (h : Out S w w1) (g : Out S' w1 w2) (hS : ∀ k, S' k → S k ∨ w.heap.size ≤ k) : Out S w w2 :=
  ⟨g.os.trans h.os, g.tape.trans h.tape, g.output.trans h.output, Nat.le_trans h.size g.size, fun k hk hn => by
    rw [g.block k (Nat.lt_of_lt_of_le hk h.size) (fun e => by rcases hS k e with h1 | h1; exact hn h1; omega)]; exact h.block k hk hn⟩
theorem Out.refl (S : Nat → Prop) (w : World) : Out S w w := ⟨rfl, rfl, rfl, Nat.le_refl _, fun _ _ _ => rfl⟩

/-- the origin, by value -/
theorem find_org (B rb : Nat) (l : List Lnk) (s : ByteArray) (w : World) (h : RegW B rb l w) (hs : s.size ≤ maxLen) :
    Calls Tryd.prog 22 #[.pointer (some ⟨rb, 0, none⟩), .string s] w fun e w' => ∃ a b c t g, e = .returned (.tuple #[.agg #[.string a, .string b, .string c, .int .i64 t, .int .u64 (orgH l s.data.toList)], .bool g]) ∧ Below w.heap.size w w' := by
  cases hf : fnd l s.data.toList with
  | some x =>
    refine (find_yes B rb l s w h hs x hf).mono ?_
    rintro e w' ⟨rfl, hb⟩
    exact ⟨_, _, _, _, _, by unfold orgH lkArr; rw [hf], hb⟩
  | none =>
    refine (find_no B rb l s w h hs hf).mono ?_
    rintro e w' ⟨rfl, hb⟩
    exact ⟨_, _, _, _, _, by unfold orgH noArr; rw [hf]; rfl, hb⟩
theorem orgH_lt {B rb : Nat} {l : List Lnk} {w : World} (h : RegW B rb l w) (x : List UInt8) : orgH l x < 18446744073709551616 := by
  obtain ⟨bm, v, D, h⟩ := h
  unfold orgH
  cases hf : fnd l x with
  | some y => exact (h.h6 y (fnd_mem hf).1).2.2.2
  | none => exact Nat.zero_lt_of_lt (show 0 < 18446744073709551616 by omega)
theorem join5 (a b c d e : List UInt8) : Lib.join [a, b, c, d, e] [10] = a ++ 10 :: (b ++ 10 :: (c ++ 10 :: (d ++ 10 :: e))) := by
  unfold Lib.join
  simp [List.intercalate, List.intersperse]
theorem dec_len {n : Nat} (hn : n < 18446744073709551616) : (Lib.decDigits n).length ≤ 20 := by
  rw [Lib.decDigits_length]
  by_cases h0 : n < 10
  · rw [Lib.nDigits_small h0]; omega
  · have := Lib.numDigits_eq n (by omega) hn; split at this <;> omega
theorem hexL_len (n : Nat) : (hexL n).length = 16 := by rw [hexL_K, hexK_length]
/-- the text is joined out of five parts -/
theorem text_any (a b c : ByteArray) (n o : Nat) (w : World) (ha : a.size ≤ 1000) (hb : b.size ≤ 1000) (hc : c.size ≤ 1000) (hn : n ≤ 1048576) :
    Calls Tryd.prog 24 #[.slice (some ⟨w.heap.size, 0, none⟩) 5 5, .string ⟨#[10]⟩] (w.alloc (.cells #[.string a, .string b, .string c, .string ⟨(Lib.decDigits n).toArray⟩, .string ⟨(hexL o).toArray⟩] 9))
      fun e w' => e = .returned (.string (bs (linkT a.data.toList b.data.toList c.data.toList n o))) ∧ Below w.heap.size w w' := by
  have hd := dec_len (n := n) (by omega)
  have hx := hexL_len o
  have hl := size_data a
  have hl2 := size_data b
  have hl3 := size_data c
  have h := Tryd.strings_Join w.heap.size 0 5 [a, b, c, ⟨(Lib.decDigits n).toArray⟩, ⟨(hexL o).toArray⟩] ⟨#[10]⟩ (w.alloc (.cells #[.string a, .string b, .string c, .string ⟨(Lib.decDigits n).toArray⟩, .string ⟨(hexL o).toArray⟩] 9)) (by
    intro j x hj
    match j, hj with
    | 0, hj => simp at hj; subst hj; simp
    | 1, hj => simp at hj; subst hj; simp
    | 2, hj => simp at hj; subst hj; simp
    | 3, hj => simp at hj; subst hj; simp
    | 4, hj => simp at hj; subst hj; simp) (by simp) (by simp) (by simp) (by
    show (Lib.join [a.data.toList, b.data.toList, c.data.toList, Lib.decDigits n, hexL o] [10]).length ≤ _
    rw [join5]
    simp only [List.length_append, List.length_cons]
    omega)
  refine h.mono ?_
  rintro e w' ⟨rfl, hb⟩
  refine ⟨?_, ((Below.refl _ _).alloc (Nat.le_refl _) _).trans (hb.mono (by simp))⟩
  show _ = Ending.returned (.string ⟨(linkT a.data.toList b.data.toList c.data.toList n o).toArray⟩)
  rw [show Lib.join (List.map (fun x => x.data.toList) [a, b, c, ⟨(Lib.decDigits n).toArray⟩, ⟨(hexL o).toArray⟩]) (⟨#[10]⟩ : ByteArray).data.toList = Lib.join [a.data.toList, b.data.toList, c.data.toList, Lib.decDigits n, hexL o] [10] from rfl, join5]
  rfl
theorem linkT_len {a b c : List UInt8} {n : Int} {o : Nat} (ha : a.length ≤ 1000) (hb : b.length ≤ 1000) (hc : c.length ≤ 1000) (hn : n.toNat < 18446744073709551616) : (linkT a b c n o).length ≤ 4000 := by
  have hd := dec_len hn
  have hx := hexL_len o
  unfold linkT
  simp only [List.length_append, List.length_cons]
  omega
/-- one link more -/
theorem wpList_app_link {ops : Array Oper} {rest : List Oper} {o : Oper} {a : Act} {Q : Exit → Act → World → Prop} {w : World} (hw : Region.wanted o (yielded ops a.tmps) = true) (s x : Operand)
    (ho : o.op = .call { callee := .builtin .append, args := #[s, x], argTypes := #[22, 22] }) (B : Nat) (v : Value) (l : List Lnk) (hs : a.eval s = v) (hown : OwnK w B v l)
    (g c : Nat) (y : Lnk) (hx : a.eval x = .slice (some ⟨g, 0, none⟩) 1 c) (hy : LkAt w g 0 y) (hlen : l.length ≤ 1000000) (hb : B ≤ w.heap.size)
    (h : ∀ v' w', OwnK w' B v' (l ++ [y]) → w.grownBy w' v.ownBlock → (v'.ownBlock = v.ownBlock ∨ v'.ownBlock = some w.heap.size) → wpList Tryd.prog ops Q rest (a.put o.dst v') w') : wpList Tryd.prog ops Q (o :: rest) a w :=
  wpList_step fun K hK => by
    rw [if_pos hw]
    obtain ⟨i, hi, hz0, hz1, hz2⟩ := info_parts Tryd_infoLink
    refine wp_app_gen s x 22 29 ho i (.agg #[.string ⟨#[]⟩, .string ⟨#[]⟩, .string ⟨#[]⟩, .int .i64 0, .int .u64 0]) 5 64 Tryd.underlying22 hi hz0 hz1 hz2 rfl (by decide) B v l.length (l.flatMap lkCells) hs hown ⟨g, 0, none⟩ 1 c hx (lkCells y) rfl (fun j u hj => ?_) (fun u hu => ?_) (by unfold maxLen; omega) (by omega) hb fun v' w' h1 h2 h3 => hK _ _ (h v' w' ?_ h2 h3)
    · obtain ⟨y0, y1, y2, y3, y4⟩ := hy
      rw [Lib.add_plain]
      match j, hj with
      | 0, hj => simp [lkCells] at hj; subst hj; exact y0
      | 1, hj => simp [lkCells] at hj; subst hj; exact y1
      | 2, hj => simp [lkCells] at hj; subst hj; exact y2
      | 3, hj => simp [lkCells] at hj; subst hj; exact y3
      | 4, hj => simp [lkCells] at hj; subst hj; exact y4
    · simp only [lkCells, List.mem_cons, List.not_mem_nil, or_false] at hu
      rcases hu with rfl | rfl | rfl | rfl | rfl <;> rfl
    · unfold OwnK
      rw [List.length_append, List.flatMap_append]
      have e : [y].flatMap lkCells = lkCells y := by simp
      rw [e]
      exact h1
theorem lit_link (w : World) (y : Lnk) : LkAt (w.alloc (.cells #[.string (bs y.item), .string (bs y.frm), .string (bs y.heat), .int .i64 y.tm, .int .u64 y.hash] 29)) w.heap.size 0 y := by
  refine ⟨?_, ?_, ?_, ?_, ?_⟩ <;> simp
theorem OwnK.form {w : World} {B : Nat} {v : Value} {l : List Lnk} {y : Lnk} (h : OwnK w B v (l ++ [y])) : ∃ g c, v = .slice (some ⟨g, 0, none⟩) (l.length + 1) c := by
  rcases own_flat_form h with ⟨_, e⟩ | ⟨g, cap, e, _⟩
  · exact absurd e (by simp)
  · exact ⟨g, cap, by rw [e, List.length_append, List.length_singleton]⟩
/-! the register behind Add -/
section
variable {B rb bm : Nat} {v v' : Value} {D : DataW Unit} {l : List Lnk} {w w3 wa : World} {y : Lnk} {o : Obj}
theorem RegM.own3 (h : RegM B rb bm v D l w) (g : w.drew.grownBy w3 (some bm)) : OwnK w3 B v l := by
  refine World.ownsRow.kept (w := w.drew) h.own g ?_
  cases e : v.ownBlock with
  | none => exact .inl rfl
  | some k => exact .inr fun e2 => (h.h4 k e).2 (Option.some.inj e2)
theorem RegM.blk3 (h : RegM B rb bm v D l w) (g : w.drew.grownBy w3 (some bm)) : w3.heap[rb]? = some (.cells #[v, .map (some bm)] 49 (0, 0)) :=
  (g.block rb h.lt (fun e => h.h3 (Option.some.inj e))).trans h.blk
theorem RegM.blka (h : RegM B rb bm v D l w) (g : w.drew.grownBy w3 (some bm)) (ga : (w3.alloc o).grownBy wa v.ownBlock) : wa.heap[rb]? = some (.cells #[v, .map (some bm)] 49 (0, 0)) := by
  have hl : rb < w3.heap.size := (Array.getElem?_eq_some_iff.1 (h.blk3 g)).1
  rw [ga.block rb (by simp; omega) (fun e => (h.h4 rb e.symm).1 rfl), ((Below.refl _ w3).alloc (Nat.le_refl _) o).block rb hl]
  exact h.blk3 g
theorem RegM.added (h : RegM B rb bm v D l w) (g : w.drew.grownBy w3 (some bm)) (hm : w3.ownsMap Tryd.prog 9 (plainElem Tryd.prog 3) bm (l.length + 1) (D.put (.string y.item) (.lit (.int .i64 l.length))))
    (ga : (w3.alloc o).grownBy wa v.ownBlock) (ho : OwnK wa B v' (l ++ [y])) (hat : v'.ownBlock = v.ownBlock ∨ v'.ownBlock = some (w3.heap.size + 1))
    (he : addE l y.item y.frm y.heat y.tm = 0) (hy : y.hash = (newL l y.item y.frm y.heat y.tm).hash) (h6 : y.item.length ≤ 64 ∧ y.frm.length ≤ 64 ∧ y.heat.length ≤ 16 ∧ y.hash < 18446744073709551616) :
    RegS (RB rb bm v') B rb (l ++ [y]) (wa.setCell ⟨rb, 0, none⟩ v') ∧ (∀ k, RB rb bm v' k → RB rb bm v k ∨ w.heap.size ≤ k) ∧ Out (RB rb bm v) w (wa.setCell ⟨rb, 0, none⟩ v') := by
  have hz3 : w.heap.size ≤ w3.heap.size := g.size
  have hza : w3.heap.size + 1 ≤ wa.heap.size := by have := ga.size; simpa using this
  have hbk := h.blka g ga
  have hn : ∀ k, v'.ownBlock = some k → v.ownBlock = some k ∨ w3.heap.size + 1 ≤ k := by
    intro k hk
    rcases hat with e | e
    · left; rw [← e]; exact hk
    · right; rw [e] at hk; have := Option.some.inj hk; omega
  have hbl : bm < w3.heap.size := hm.lt
  have hrl := h.lt
  have hne : y = newL l y.item y.frm y.heat y.tm := by cases y; simp only [newL, Lnk.mk.injEq, true_and] at hy ⊢; exact hy
  refine ⟨⟨bm, v', _, ⟨?_, ?_, ?_, h.map.put (addE_zero he).2.1 (by simp [WideAt.IsKeyLit]), ?_, h.h1, h.h2, h.h3, ?_, ?_, ?_⟩, rfl⟩, ?_, ?_⟩
  · have := heap_setCell_same wa rb 0 _ _ v' hbk
    exact this
  · refine ownsRow_setCell_other ho ?_ _
    intro e
    rcases hn rb e with e2 | e2
    · exact (h.h4 rb e2).1 rfl
    · omega
  · rw [List.length_append, List.length_singleton]
    refine World.ownsMap.setCell ?_ (Ne.symm h.h3) _
    refine World.ownsMap.kept (World.ownsMap.alloc hm o) ga ?_
    cases e : v.ownBlock with
    | none => simp
    | some k => intro e2; exact (h.h4 k e).2 (Option.some.inj e2).symm
  · rw [hne]; exact h.reg.add he
  · intro k hk
    rcases hn k hk with e2 | e2
    · exact h.h4 k e2
    · exact ⟨by omega, by omega⟩
  · have := (addE_zero he).2.2.1; rw [List.length_append, List.length_singleton]; omega
  · intro x hx
    rcases List.mem_append.1 hx with hx | hx
    · exact h.h6 x hx
    · rw [List.mem_singleton] at hx; subst hx; exact h6
  · intro k hk
    rcases hk with rfl | rfl | hk
    · exact .inl (.inl rfl)
    · exact .inl (.inr (.inl rfl))
    · rcases hn k hk with e2 | e2
      · exact .inl (.inr (.inr e2))
      · exact .inr (by omega)
  · have o1 : Out (RB rb bm v) w w.drew := Out.of_below (Below.refl _ _).drew
    have o2 := o1.grown g (fun k e => .inl (.inr (.inl (Option.some.inj e).symm)))
    have o3 := o2.below ((Below.refl _ _).alloc hz3 o)
    have o4 := o3.grown ga (fun k e => .inl (.inr (.inr e)))
    exact o4.grown (grownBy_set wa rb 0 v') (fun k e => .inl (.inl (Option.some.inj e).symm))
end
end Go.Proofs.YtjbegegjpepkjaaDoor
