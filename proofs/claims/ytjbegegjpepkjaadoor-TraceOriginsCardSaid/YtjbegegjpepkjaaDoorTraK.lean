/- Contracts of the reference: find; the hash of a link. -/
import Derived.Test.YtjbegegjpepkjaaDoorTraJ
import Derived.Test.YtjbegegjpepkjaaDoorVals
namespace Go.Proofs.YtjbegegjpepkjaaDoor
open Go.RowKit Go.Maps

theorem fa0 {o : Oper} {a : Act} {w : World} {K : Act → World → Prop} {Q : Exit → Act → World → Prop} (x : Operand) (k : Nat) (hk : k < 5) (ho : o.op = .fieldAddr 29 x k) (b off : Nat) (hx : a.eval x = .pointer (some ⟨b, off, none⟩)) (h : K (a.put o.dst (.pointer (some ⟨b, off + k, none⟩))) w) : o.wp Tryd.prog a w K Q := by
  have hc : k = 0 ∨ k = 1 ∨ k = 2 ∨ k = 3 ∨ k = 4 := by omega
  unfold Oper.wp execOp
  rcases hc with rfl | rfl | rfl | rfl | rfl
  all_goals
    simp only [ho, hx]
    go_simp
    exact h
theorem cl_text {o : Oper} {a : Act} {w : World} {K : Act → World → Prop} {Q : Exit → Act → World → Prop} (x : Operand) (ho : o.op = .call { callee := .value (.func 44), args := #[x], argTypes := #[3] }) (n : Nat) (hx : a.eval x = .int .i64 n) (hn : n ≤ 9223372036854775807)
    (h : ∀ w', Below w.heap.size w w' → K (a.put o.dst (.string ⟨(Lib.decDigits n).toArray⟩)) w') : o.wp Tryd.prog a w K Q := by
  have hf : a.eval (.func 44) = .func (.func 44) #[] #[] := rfl
  unfold Oper.wp execOp
  simp only [ho]
  generalize a.eval = ev at *
  go_simp
  refine (rText_any n w hn).mono ?_
  rintro e w' ⟨rfl, hb⟩
  exact h w' hb
theorem cl_hex {o : Oper} {a : Act} {w : World} {K : Act → World → Prop} {Q : Exit → Act → World → Prop} (x : Operand) (ho : o.op = .call { callee := .value (.func 45), args := #[x], argTypes := #[27] }) (n : Nat) (hx : a.eval x = .int .u64 n) (hn : n < 18446744073709551616)
    (h : ∀ m, K (a.put o.dst (.string ⟨(hexL n).toArray⟩)) (w.drewN m)) : o.wp Tryd.prog a w K Q := by
  have hf : a.eval (.func 45) = .func (.func 45) #[] #[] := rfl
  unfold Oper.wp execOp
  simp only [ho]
  generalize a.eval = ev at *
  go_simp
  refine (rhex_any n w hn).mono ?_
  rintro e w' ⟨rfl, m, rfl⟩
  exact h m
theorem cl_hash {o : Oper} {a : Act} {w : World} {K : Act → World → Prop} {Q : Exit → Act → World → Prop} (x : Operand) (ho : o.op = .call { callee := .value (.func 43), args := #[x], argTypes := #[9] }) (s : ByteArray) (hx : a.eval x = .string s) (hs : s.size ≤ maxLen)
    (h : K (a.put o.dst (.int .u64 (fnvL s.data.toList))) w) : o.wp Tryd.prog a w K Q := by
  have hf : a.eval (.func 43) = .func (.func 43) #[] #[] := rfl
  unfold Oper.wp execOp
  simp only [ho]
  generalize a.eval = ev at *
  go_simp
  refine (rHash_any s w hs).mono ?_
  rintro e w' ⟨rfl, rfl⟩
  exact h

/-! the values of the region -/
def nl : ByteArray := ⟨#[10]⟩
def hS : List Nat := [5, 6, 7, 8, 9, 10, 11, 12, 13, 14, 15, 16, 17, 18, 19, 20, 21, 22, 23, 24, 4]
def hd (j : Nat) : Nat := if j = 20 then 4 else j + 5
theorem hd_inj {i j : Nat} (h : hd j = hd i) : j = i := by unfold hd at h; split at h <;> split at h <;> omega
def hV (x : Nat) (a b c : ByteArray) (n o : Nat) : Nat → Value
  | 0 => .pointer (some ⟨x, 0, none⟩)
  | 1 => .string a
  | 2 => .string (a ++ nl)
  | 3 => .pointer (some ⟨x, 1, none⟩)
  | 4 => .string b
  | 5 => .string (a ++ nl ++ b)
  | 6 => .string (a ++ nl ++ b ++ nl)
  | 7 => .pointer (some ⟨x, 2, none⟩)
  | 8 => .string c
  | 9 => .string (a ++ nl ++ b ++ nl ++ c)
  | 10 => .string (a ++ nl ++ b ++ nl ++ c ++ nl)
  | 11 => .pointer (some ⟨x, 3, none⟩)
  | 12 => .int .i64 n
  | 13 => .string ⟨(Lib.decDigits n).toArray⟩
  | 14 => .string (a ++ nl ++ b ++ nl ++ c ++ nl ++ (⟨(Lib.decDigits n).toArray⟩ : ByteArray))
  | 15 => .string (a ++ nl ++ b ++ nl ++ c ++ nl ++ (⟨(Lib.decDigits n).toArray⟩ : ByteArray) ++ nl)
  | 16 => .int .u64 o
  | 17 => .string ⟨(hexL o).toArray⟩
  | 18 => .string (a ++ nl ++ b ++ nl ++ c ++ nl ++ (⟨(Lib.decDigits n).toArray⟩ : ByteArray) ++ nl ++ (⟨(hexL o).toArray⟩ : ByteArray))
  | 19 => .int .u64 (fnvL (linkT a.data.toList b.data.toList c.data.toList n o))
  | _ => .int .u64 (fnvL (linkT a.data.toList b.data.toList c.data.toList n o))

set_option maxHeartbeats 4000000 in
set_option maxRecDepth 100000 in
theorem rhash_any (a b c : ByteArray) (n o h0 : Nat) (w : World) (ha : a.size ≤ 1000) (hb : b.size ≤ 1000) (hc : c.size ≤ 1000) (hn : n ≤ 1048576) (ho : o < 18446744073709551616) :
    Calls Tryd.prog 30 #[.agg #[.string a, .string b, .string c, .int .i64 n, .int .u64 h0], .int .u64 o] w (Ret w (.int .u64 (fnvL (linkT a.data.toList b.data.toList c.data.toList n o)))) := by
  go_enter Tryd.func30, Tryd.ntmps30
  go_wp2_with fail
  refine wp_name fun a0 ha0 => ?_
  have z0 : a0.tmps.size = 25 := by rw [ha0]; rfl
  have q2 : a0.eval (.tmp 2) = .pointer (some ⟨w.heap.size, 0, none⟩) := by rw [ha0]; rfl
  have q1 : a0.eval (.tmp 1) = .int .u64 o := by rw [ha0]; rfl
  have k0 : (w.alloc (.cells #[.string a, .string b, .string c, .int .i64 n, .int .u64 h0] 29)).cell? ⟨w.heap.size, 0, none⟩ = some (.string a) := by simp
  have k1 : (w.alloc (.cells #[.string a, .string b, .string c, .int .i64 n, .int .u64 h0] 29)).cell? ⟨w.heap.size, 1, none⟩ = some (.string b) := by simp
  have k2 : (w.alloc (.cells #[.string a, .string b, .string c, .int .i64 n, .int .u64 h0] 29)).cell? ⟨w.heap.size, 2, none⟩ = some (.string c) := by simp
  have k3 : (w.alloc (.cells #[.string a, .string b, .string c, .int .i64 n, .int .u64 h0] 29)).cell? ⟨w.heap.size, 3, none⟩ = some (.int .i64 n) := by simp
  have hdl := dec_len (n := n) (by omega)
  have hxl := hexL_len o
  have dz : (⟨(Lib.decDigits n).toArray⟩ : ByteArray).size ≤ 20 := hdl
  have xz : (⟨(hexL o).toArray⟩ : ByteArray).size ≤ 16 := by show (hexL o).toArray.size ≤ 16; simp [hxl]
  have nz : nl.size = 1 := rfl
  have HBW : Below w.heap.size w (w.alloc (.cells #[.string a, .string b, .string c, .int .i64 n, .int .u64 h0] 29)) := (Below.refl _ _).alloc (Nat.le_refl _) _
  generalize w.alloc (.cells #[.string a, .string b, .string c, .int .i64 n, .int .u64 h0] 29) = W at *
  refine wp_region_inv (by kernel_rfl) (by kernel_rfl) (fun L a' w' => IV hS hd (hV w.heap.size a b c n o) W a0 L a' w') IV.start ?_ ?_
  · intro i op L a' w' hop hLi hdep hcl I K hK
    have hi : i < 21 := (Array.getElem?_eq_some_iff.1 hop).1
    have es : ∀ m, m ∉ hS → a'.eval (.tmp m) = a0.eval (.tmp m) := fun m hm => I.sm.eval hm
    have nx : ∀ w'', Below W.heap.size W w'' → IV hS hd (hV w.heap.size a b c n o) W a0 (updL L i) (a'.put (some (hd i)) (hV w.heap.size a b c n o i)) w'' := fun w'' hb =>
      I.next i (by unfold hd hS; split; simp; simp; omega) (by rw [z0]; unfold hd; split <;> omega) (fun j hj => hd_inj hj) hb
    have vl := fun j (hj : L j = true) => I.val j hj
    have hcase : i = 0 ∨ i = 1 ∨ i = 2 ∨ i = 3 ∨ i = 4 ∨ i = 5 ∨ i = 6 ∨ i = 7 ∨ i = 8 ∨ i = 9 ∨ i = 10 ∨ i = 11 ∨ i = 12 ∨ i = 13 ∨ i = 14 ∨ i = 15 ∨ i = 16 ∨ i = 17 ∨ i = 18 ∨ i = 19 ∨ i = 20 := by omega
    rcases hcase with h | h | h | h | h | h | h | h | h | h | h | h | h | h | h | h | h | h | h | h | h <;> subst h <;> have ho' := Option.some.inj hop <;> subst ho' <;> rw [if_pos (by rfl)]
    · exact fa0 (.tmp 2) 0 (by omega) rfl _ 0 ((es 2 (by simp [hS])).trans q2) (hK _ _ (nx _ I.bw))
    · exact vl_load 9 agg_string (.tmp 5) rfl _ _ (vl 0 (hdep ⟨0, .data⟩ (by simp) rfl)) (cell_keep I.bw k0) (hK _ _ (nx _ I.bw))
    · exact vl_sadd (.tmp 6) _ rfl a nl (vl 1 (hdep ⟨1, .data⟩ (by simp) rfl)) rfl (by omega) (by omega) (hK _ _ (nx _ I.bw))
    · exact fa0 (.tmp 2) 1 (by omega) rfl _ 0 ((es 2 (by simp [hS])).trans q2) (hK _ _ (nx _ I.bw))
    · exact vl_load 9 agg_string (.tmp 8) rfl _ _ (vl 3 (hdep ⟨3, .data⟩ (by simp) rfl)) (cell_keep I.bw k1) (hK _ _ (nx _ I.bw))
    · exact vl_sadd (.tmp 7) (.tmp 9) rfl _ _ (vl 2 (hdep ⟨2, .data⟩ (by simp) rfl)) (vl 4 (hdep ⟨4, .data⟩ (by simp) rfl)) (by simp only [ByteArray.size_append]; omega) (by omega) (hK _ _ (nx _ I.bw))
    · exact vl_sadd (.tmp 10) _ rfl _ nl (vl 5 (hdep ⟨5, .data⟩ (by simp) rfl)) rfl (by simp only [ByteArray.size_append]; omega) (by omega) (hK _ _ (nx _ I.bw))
    · exact fa0 (.tmp 2) 2 (by omega) rfl _ 0 ((es 2 (by simp [hS])).trans q2) (hK _ _ (nx _ I.bw))
    · exact vl_load 9 agg_string (.tmp 12) rfl _ _ (vl 7 (hdep ⟨7, .data⟩ (by simp) rfl)) (cell_keep I.bw k2) (hK _ _ (nx _ I.bw))
    · exact vl_sadd (.tmp 11) (.tmp 13) rfl _ _ (vl 6 (hdep ⟨6, .data⟩ (by simp) rfl)) (vl 8 (hdep ⟨8, .data⟩ (by simp) rfl)) (by simp only [ByteArray.size_append]; omega) (by omega) (hK _ _ (nx _ I.bw))
    · exact vl_sadd (.tmp 14) _ rfl _ nl (vl 9 (hdep ⟨9, .data⟩ (by simp) rfl)) rfl (by simp only [ByteArray.size_append]; omega) (by omega) (hK _ _ (nx _ I.bw))
    · exact fa0 (.tmp 2) 3 (by omega) rfl _ 0 ((es 2 (by simp [hS])).trans q2) (hK _ _ (nx _ I.bw))
    · exact vl_load 3 agg_int0 (.tmp 16) rfl _ _ (vl 11 (hdep ⟨11, .data⟩ (by simp) rfl)) (cell_keep I.bw k3) (hK _ _ (nx _ I.bw))
    · exact cl_text (.tmp 17) rfl n (vl 12 (hdep ⟨12, .data⟩ (by simp) rfl)) (by omega) fun w'' hb => hK _ _ (nx _ (ext_trans I.bw hb))
    · exact vl_sadd (.tmp 15) (.tmp 18) rfl _ _ (vl 10 (hdep ⟨10, .data⟩ (by simp) rfl)) (vl 13 (hdep ⟨13, .data⟩ (by simp) rfl)) (by simp only [ByteArray.size_append]; omega) (by omega) (hK _ _ (nx _ I.bw))
    · exact vl_sadd (.tmp 19) _ rfl _ nl (vl 14 (hdep ⟨14, .data⟩ (by simp) rfl)) rfl (by simp only [ByteArray.size_append]; omega) (by omega) (hK _ _ (nx _ I.bw))
    · exact vl_move (.tmp 1) rfl _ ((es 1 (by simp [hS])).trans q1) (hK _ _ (nx _ I.bw))
    · exact cl_hex (.tmp 21) rfl o (vl 16 (hdep ⟨16, .data⟩ (by simp) rfl)) ho fun m => hK _ _ (nx _ (below_drewN' I.bw m))
    · exact vl_sadd (.tmp 20) (.tmp 22) rfl _ _ (vl 15 (hdep ⟨15, .data⟩ (by simp) rfl)) (vl 17 (hdep ⟨17, .data⟩ (by simp) rfl)) (by simp only [ByteArray.size_append]; omega) (by omega) (hK _ _ (nx _ I.bw))
    · have HT : (a ++ nl ++ b ++ nl ++ c ++ nl ++ (⟨(Lib.decDigits n).toArray⟩ : ByteArray) ++ nl ++ (⟨(hexL o).toArray⟩ : ByteArray)).data.toList = linkT a.data.toList b.data.toList c.data.toList n o := by
        unfold linkT nl; simp
      refine cl_hash (.tmp 23) rfl _ (vl 18 (hdep ⟨18, .data⟩ (by simp) rfl)) (by simp only [ByteArray.size_append]; unfold maxLen; omega) ?_
      rw [HT]
      exact hK _ _ (nx _ I.bw)
    · exact vl_assign (.tmp 24) rfl _ (vl 19 (hdep ⟨19, .data⟩ (by simp) rfl)) (hK _ _ (nx _ I.bw))
  · intro L a' w1 hall I
    have v4 := I.val 20 (hall 20 (by decide))
    have HA := I.sm.lit
    have HB : Below w.heap.size w w1 := ext_trans HBW I.bw
    have hd20 : a'.eval (.tmp 4) = .int .u64 (fnvL (linkT a.data.toList b.data.toList c.data.toList n o)) := v4
    simp only [hS, List.foldl] at HA
    rw [hd20] at HA
    generalize a'.eval (.tmp 5) = t5 at HA
    generalize a'.eval (.tmp 6) = t6 at HA
    generalize a'.eval (.tmp 7) = t7 at HA
    generalize a'.eval (.tmp 8) = t8 at HA
    generalize a'.eval (.tmp 9) = t9 at HA
    generalize a'.eval (.tmp 10) = t10 at HA
    generalize a'.eval (.tmp 11) = t11 at HA
    generalize a'.eval (.tmp 12) = t12 at HA
    generalize a'.eval (.tmp 13) = t13 at HA
    generalize a'.eval (.tmp 14) = t14 at HA
    generalize a'.eval (.tmp 15) = t15 at HA
    generalize a'.eval (.tmp 16) = t16 at HA
    generalize a'.eval (.tmp 17) = t17 at HA
    generalize a'.eval (.tmp 18) = t18 at HA
    generalize a'.eval (.tmp 19) = t19 at HA
    generalize a'.eval (.tmp 20) = t20 at HA
    generalize a'.eval (.tmp 21) = t21 at HA
    generalize a'.eval (.tmp 22) = t22 at HA
    generalize a'.eval (.tmp 23) = t23 at HA
    generalize a'.eval (.tmp 24) = t24 at HA
    rw [HA, ha0]
    simp only [Act.put, List.setIfInBounds_toArray, List.set_cons_zero, List.set_cons_succ]
    clear HA I hall q2 q1 z0 ha0 k0 k1 k2 k3 v4 hd20
    have HB2 := Lib.hid HB
    clear HB
    go_wp2_with fail
    go_ret
    exact ⟨rfl, HB2.out⟩

/-! find of the reference -/
def fI (l : List Lnk) (x : List UInt8) : Int := match l.findIdx? (fun y => y.item == x) with
  | some i => i
  | none => -1
theorem fI_some {l : List Lnk} {x : List UInt8} {i : Nat} {y : Lnk} (hi : l[i]? = some y) (hy : y.item = x) (hb : ∀ j z, j < i → l[j]? = some z → z.item ≠ x) : fI l x = i ∧ fnd l x = some y := by
  have hil := (List.getElem?_eq_some_iff.1 hi).1
  have h1 : l.findIdx? (fun y => y.item == x) = some i := by
    rw [List.findIdx?_eq_some_iff_getElem]
    obtain ⟨h2, h3⟩ := List.getElem?_eq_some_iff.1 hi
    refine ⟨h2, by rw [h3]; simp [hy], fun j hj => ?_⟩
    have := hb j l[j] hj (List.getElem?_eq_getElem (by omega))
    simp [this]
  refine ⟨by unfold fI; rw [h1], ?_⟩
  unfold fnd
  rw [List.find?_eq_some_iff_getElem]
  obtain ⟨h2, h3⟩ := List.getElem?_eq_some_iff.1 hi
  refine ⟨by simp [hy], i, h2, h3, fun j hj => ?_⟩
  have := hb j l[j] hj (List.getElem?_eq_getElem (by omega))
  simp [this]
theorem fI_none {l : List Lnk} {x : List UInt8} (hb : ∀ j z, j < l.length → l[j]? = some z → z.item ≠ x) : fI l x = -1 ∧ fnd l x = none := by
  have hall : ∀ y ∈ l, y.item ≠ x := fun y hy => by
    obtain ⟨j, hj⟩ := List.getElem?_of_mem hy
    exact hb j y (List.getElem?_eq_some_iff.1 hj).1 hj
  refine ⟨?_, ?_⟩
  · unfold fI
    rw [List.findIdx?_eq_none_iff.2 (fun y hy => by simp [hall y hy])]
  · unfold fnd
    rw [List.find?_eq_none]
    intro y hy; simp [hall y hy]
theorem rfind_any (v : Value) (l : List Lnk) (s : ByteArray) (w : World) (h : SK w v l) :
    Calls Tryd.prog 29 #[v, .string s] w fun e w' => e = .returned (.int .i64 (fI l s.data.toList)) ∧ w = w' := by
  obtain ⟨a, cap, rfl, n1, n2, n3⟩ := h
  have N3 := Lib.hid n3
  unfold maxLen at n2
  clear n3
  go_enter Tryd.func29, Tryd.ntmps29
  go_wp2_with fail
  go_loop [5] (fun i => ∃ k : Nat, k ≤ l.length ∧ i = .int .i64 k ∧ Hid (∀ j z, j < k → l[j]? = some z → z.item ≠ s.data.toList)) (fun i => l.length - (intOf i).toNat)
  case atStart => exact ⟨0, Nat.zero_le _, rfl, fun j z hj => by omega⟩
  case round =>
    obtain ⟨k, hk, rfl, hj⟩ := hrel
    by_cases hlt : k < l.length
    · obtain ⟨b, off, ha, hc⟩ := N3.out k hlt
      subst ha
      have c0 := hc.c0
      have hki : l[k]? = some (ki l k) := by rw [ki_lt hlt]; exact List.getElem?_eq_getElem hlt
      obtain ⟨y, hy⟩ : ∃ y, ki l k = y := ⟨_, rfl⟩
      rw [hy] at c0 hki
      have HKI := Lib.hid hki
      clear hc hy hki
      by_cases he : y.item = s.data.toList
      · have HR := Lib.hid (fI_some HKI.out he hj.out).1
        have b1 : ((bs y.item).toList == s.toList) = true := by rw [beq_iff_eq, toList_data, toList_data, bs_list]; exact he
        clear he hj
        go_wp2_with fail
        go_ret
        exact ⟨congrArg (fun x : Int => Ending.returned (.int .i64 x)) HR.out.symm, rfl⟩
      · have HR : Hid (∀ j z, j < k + 1 → l[j]? = some z → z.item ≠ s.data.toList) := fun j z hjk hz => by
          by_cases e : j = k
          · subst e; rw [HKI.out] at hz; rw [← Option.some.inj hz]; exact he
          · exact hj.out j z (by omega) hz
        have b1 : ((bs y.item).toList == s.toList) = false := by rw [beq_eq_false_iff_ne, toList_data, toList_data, bs_list]; exact he
        clear he hj
        go_wp2_with fail
        go_round
        case rel => exact ⟨k + 1, by omega, by go_num, HR.out⟩
        case measure => simp [intOf]; omega
    · obtain rfl : k = l.length := by omega
      have HR := Lib.hid (fI_none hj.out).1
      clear hj
      go_wp2_with fail
      go_ret
      exact ⟨congrArg (fun x : Int => Ending.returned (.int .i64 x)) HR.out.symm, rfl⟩
end Go.Proofs.YtjbegegjpepkjaaDoor
