/- Contracts: numerals, line and Text of certify's reference. -/
import Derived.Test.YtehbnckdllbmgaaGreatDoorCerM
import Derived.Laws.IdiomStrings
import Derived.Laws.BitsAllLaws
import Derived.IntWalk
import Derived.Outline
import Derived.Deep.LoopGhost
set_option linter.unusedSimpArgs false
set_option linter.unusedVariables false
namespace Go.Proofs.YtehbnckdllbmgaaGreatDoor
open Go.RowKit

theorem byte_empty {s : ByteArray} (h : s.size = 0) : s = ⟨#[]⟩ := by
  have : s.data = #[] := Array.eq_empty_of_size_eq_zero h
  cases s; simp_all
theorem toList_data (s : ByteArray) : s.toList = s.data.toList := Go.ByteArray.toList_eq s

theorem neg_neg_u {n : Int} (h0 : n < 0) (h1 : -9223372036854775808 ≤ n) : IntKind.u64.wrap (-IntKind.u64.wrap n) = (n.natAbs : Nat) := by
  have h2 : IntKind.u64.wrap n = n + 18446744073709551616 := by
    show n % 18446744073709551616 = _
    omega
  rw [h2]
  show (-(n + 18446744073709551616)) % 18446744073709551616 = _
  omega
theorem mag_any (n : Int) (w : World) (hn : in64 n) : Calls Tryz.prog 120 #[.int .i64 n] w fun e w' => e = .returned (.int .u64 (n.natAbs : Nat)) ∧ w = w' := by
  obtain ⟨n0, n1⟩ := hn
  by_cases h0 : n < 0
  · have hd : decide (n < 0) = true := decide_eq_true h0
    go_enter Tryz.func120, Tryz.ntmps120
    go_wp2_with fail
    go_ret
    exact ⟨by rw [neg_neg_u h0 n0]; rfl, rfl⟩
  · have hd : decide (n < 0) = false := decide_eq_false h0
    obtain ⟨m, rfl⟩ : ∃ m : Nat, n = m := ⟨n.toNat, by omega⟩
    go_enter Tryz.func120, Tryz.ntmps120
    go_wp2_with fail
    go_ret
    exact ⟨rfl, rfl⟩
def TxI (n m : Nat) (l : List UInt8) : Prop := (l = [] ∧ m = n) ∨ (l ≠ [] ∧ ((m = 0 ∧ l = Lib.decDigits n) ∨ (0 < m ∧ Lib.decDigits m ++ l = Lib.decDigits n)))
def txM (n z m : Nat) : Nat := if z = 0 then n + 1 else m
theorem txM_lt {n z z' m m' : Nat} (h : m' ≤ n) (h1 : z' ≠ 0) (h2 : 0 < m → m' < m) (h3 : 0 < m ∨ z = 0) : txM n z' m' < txM n z m := by
  unfold txM; rw [if_neg h1]; split <;> omega
theorem TxI.start (n : Nat) : TxI n n [] := .inl ⟨rfl, rfl⟩
theorem TxI.len {n m : Nat} {l : List UInt8} (h : TxI n m l) (hn : n < 18446744073709551616) : l.length ≤ 20 := by
  have hd : (Lib.decDigits n).length ≤ 20 := by
    rw [Lib.decDigits_length]
    by_cases h0 : n < 10
    · rw [Lib.nDigits_small h0]; omega
    · have := Lib.numDigits_eq n (by omega) hn; split at this <;> omega
  rcases h with ⟨rfl, _⟩ | ⟨_, ⟨_, rfl⟩ | ⟨_, h⟩⟩
  · simp
  · exact hd
  · have := congrArg List.length h
    rw [List.length_append] at this; omega
theorem dec_big {m : Nat} (h : ¬ m < 10) : Lib.decDigits m = Lib.decDigits (m / 10) ++ [UInt8.ofNat (48 + m % 10)] := by
  rw [Lib.decDigits, dif_neg h]
theorem TxI.step {n m : Nat} {l : List UInt8} (h : TxI n m l) (hm : 0 < m ∨ l = []) : TxI n (m / 10) (UInt8.ofNat (48 + m % 10) :: l) := by
  right
  refine ⟨by simp, ?_⟩
  by_cases h10 : m < 10
  · left
    refine ⟨by omega, ?_⟩
    have e : Lib.decDigits m = [UInt8.ofNat (48 + m % 10)] := by rw [Lib.decDigits_one h10, Nat.mod_eq_of_lt h10]
    rcases h with ⟨rfl, rfl⟩ | ⟨_, ⟨rfl, _⟩ | ⟨_, h⟩⟩
    · rw [e]
    · rcases hm with h0 | rfl
      · omega
      · contradiction
    · rw [← h, e]; rfl
  · right
    refine ⟨by omega, ?_⟩
    rcases h with ⟨rfl, rfl⟩ | ⟨_, ⟨rfl, _⟩ | ⟨_, h⟩⟩
    · rw [dec_big h10]
    · omega
    · rw [← h, dec_big h10]; simp
theorem TxI.done {n m : Nat} {l : List UInt8} (h : TxI n m l) (hm : m = 0) (hl : l ≠ []) : l = Lib.decDigits n := by
  rcases h with ⟨rfl, _⟩ | ⟨_, ⟨_, h⟩ | ⟨h0, _⟩⟩
  · exact absurd rfl hl
  · exact h
  · omega

set_option maxHeartbeats 1000000 in
set_option maxRecDepth 100000 in
theorem rText_any (N : Int) (w : World) (hN : in64 N) : Calls Tryz.prog 91 #[.int .i64 N] w (Ret w (.string (bs (Lib.itoa N)))) := by
  obtain ⟨n, hn0⟩ : ∃ n, n = N.natAbs := ⟨_, rfl⟩
  have hn : n ≤ 9223372036854775808 := by have := hN.1; have := hN.2; omega
  have HNA := Lib.hid hn0
  go_enter Tryz.func91, Tryz.ntmps91
  go_wp2_with fail
  refine (mag_any N _ hN).mono ?_
  rintro e w1 ⟨rfl, rfl⟩
  rw [← hn0]
  clear hn0
  go_wp2_with fail
  go_loopg [3, 4] (n + 1) (fun g x mm wr => ∃ (m : Nat) (s : ByteArray), m ≤ n ∧ x = .string s ∧ mm = .int .u64 m ∧ g = txM n s.size m ∧ s.size ≤ 20 ∧ Hid (TxI n m s.data.toList) ∧ Hid (Below w.heap.size w wr))
  case atStart => exact ⟨n, _, Nat.le_refl _, rfl, rfl, rfl, by decide, TxI.start n, Below.refl _ _⟩
  case round =>
    obtain ⟨m, s, hm, rfl, rfl, rfl, hs, HT, hbw⟩ := hrel
    by_cases hp : 0 < m ∨ s.size = 0
    · obtain ⟨p, hp'⟩ : ∃ p, 48 + m % 10 = p := ⟨_, rfl⟩
      obtain ⟨m', hm'⟩ : ∃ p, m / 10 = p := ⟨_, rfl⟩
      have f1 : (48 : Int) + (m : Int) % 10 = p := by omega
      have f2 : (m : Int) / 10 = m' := by omega
      have hp2 : p < 256 := by omega
      have hmm : m ≤ 18446744073709551615 := by omega
      have hm2 : m' ≤ n := by omega
      have HT2 : Hid (TxI n m' (((⟨[UInt8.ofNat p].toArray⟩ : ByteArray) ++ s).data.toList)) := by
        have := HT.out.step (hp.imp id fun h => by have := size_data s; exact List.eq_nil_of_length_eq_zero (by omega))
        rw [hm', hp'] at this
        show TxI _ _ _
        simpa using this
      have HZ : Hid (((⟨[UInt8.ofNat p].toArray⟩ : ByteArray) ++ s).size ≤ 20) := by
        have := HT2.out.len (by omega); rw [size_data] at this; exact this
      have HZ1 : Hid (((⟨[UInt8.ofNat p].toArray⟩ : ByteArray) ++ s).size ≠ 0) := by
        show _ ≠ _; rw [← size_data]; simp
      have HG : Hid (txM n (((⟨[UInt8.ofNat p].toArray⟩ : ByteArray) ++ s).size) m' < txM n s.size m) := txM_lt hm2 HZ1.out (fun h => by omega) hp
      have hcv := fun (W : World) => run_convert_bytes_back (P := Tryz.prog) (W.alloc (.cells #[.int .u8 p] 5)) 57 9 5 ⟨W.heap.size, 0, none⟩ 1 [UInt8.ofNat p] Tryz.underlying57 Tryz.underlying5 Tryz.underlying9 (by
        intro j hj
        have e1 : (UInt8.ofNat p).toNat = p := by rw [UInt8.toNat_ofNat']; omega
        match j, hj with
        | 0, _ => simp [Addr.add, e1])
      change ∀ W, Sem.run _ (convert _ _ (.slice _ 1 _)) _ = _ at hcv
      have HC := Lib.hid hcv
      clear hp' hm'
      by_cases h0m : 0 < m
      · have b1 : decide ((0 : Int) < m) = true := by rw [decide_eq_true_eq]; omega
        go_wp2_with (simp only [hcv])
        go_roundg (txM n (((⟨[UInt8.ofNat p].toArray⟩ : ByteArray) ++ s).size) m')
        case measure => exact HG.out
        case rel => exact ⟨m', _, hm2, rfl, rfl, rfl, HZ.out, HT2.out, hbw.out.alloc hbw.out.size _⟩
      · obtain rfl : m = 0 := by omega
        have hz0 : s.size = 0 := by omega
        have hse := byte_empty hz0
        subst hse
        obtain rfl : p = 48 := by omega
        obtain rfl : m' = 0 := by omega
        have hcv0 : ∀ W : World, (convert 57 9 (.slice (some ⟨W.heap.size, 0, none⟩) 1 1)).run Tryz.prog (W.alloc (.cells #[.int .u8 48] 5)) = .ok (.string ⟨[UInt8.ofNat 48].toArray⟩) (W.alloc (.cells #[.int .u8 48] 5)) := HC.out
        clear HC hcv
        go_wp2_with (simp only [hcv0])
        go_roundg (txM n (((⟨[UInt8.ofNat 48].toArray⟩ : ByteArray) ++ (⟨#[]⟩ : ByteArray)).size) 0)
        case measure => exact HG.out
        case rel => exact ⟨0, _, Nat.zero_le _, rfl, rfl, rfl, HZ.out, HT2.out, hbw.out.alloc hbw.out.size _⟩
    · obtain rfl : m = 0 := by omega
      have hz0 : s.size ≠ 0 := by omega
      have HN : Hid (s.data.toList = Lib.decDigits n) := HT.out.done rfl (by intro h; rw [← size_data, h] at hz0; exact hz0 rfl)
      have hne : s.toList.isEmpty = false := by
        rw [toList_data]
        cases h : s.data.toList with
        | nil => rw [← size_data, h] at hz0; exact absurd rfl hz0
        | cons x xs => rfl
      have hne2 : s.toList = [] ↔ False := by rw [iff_false]; intro h; rw [h] at hne; cases hne
      clear hp hz0
      by_cases hneg : N < 0
      · have hd : decide (N < 0) = true := decide_eq_true hneg
        have HE : Hid ((⟨#[45]⟩ : ByteArray) ++ s = bs (Lib.itoa N)) := by
          show _ = _
          rw [itoa_neg hneg, ← HNA.out, ← HN.out, ← bs_of s]
          exact bs_app [45] _
        have hs45 : (⟨#[45]⟩ : ByteArray).size + s.size ≤ 100 := by have : (⟨#[45]⟩ : ByteArray).size = 1 := rfl; omega
        clear hneg
        go_wp2_with fail
        go_ret
        exact ⟨congrArg (fun x => Ending.returned (.string x)) HE.out, hbw.out⟩
      · have hd : decide (N < 0) = false := decide_eq_false hneg
        have HE : Hid (s = bs (Lib.itoa N)) := by
          show _ = _
          rw [itoa_pos (by omega), show N.toNat = n by have := HNA.out; omega, ← HN.out, bs_of]
        clear hneg
        go_wp2_with fail
        go_ret
        exact ⟨congrArg (fun x => Ending.returned (.string x)) HE.out, hbw.out⟩

theorem joinW_snoc : ∀ (xs : List (List UInt8)) (y : List UInt8), joinW (xs ++ [y]) = if xs = [] then y else joinW xs ++ 32 :: y
  | [], y => by rw [if_pos rfl]; rfl
  | x :: xs, y => by
    rw [if_neg (by simp), List.cons_append, joinW_cons (by simp), joinW_snoc xs y]
    by_cases h : xs = []
    · subst h; rw [if_pos rfl]; rfl
    · rw [if_neg h, joinW_cons h]; simp
theorem joinW_take_le (ls : List (List UInt8)) (k : Nat) : (joinW (ls.take k)).length ≤ (joinW ls).length := by
  by_cases h : ls.take k = []
  · rw [h]; exact Nat.zero_le _
  · have h0 : ls ≠ [] := fun e => h (by rw [e]; simp)
    have h1 := joinW_length h
    have h2 := joinW_length h0
    have h3 : ls.take k ++ ls.drop k = ls := List.take_append_drop k ls
    have h4 : ((ls.take k).map List.length).sum + ((ls.drop k).map List.length).sum = (ls.map List.length).sum := by rw [← List.sum_append, ← List.map_append, h3]
    have h5 : (ls.take k).length ≤ ls.length := List.length_take_le' k ls
    omega

set_option maxHeartbeats 2000000 in
set_option maxRecDepth 100000 in
theorem rline_any (u : Value) (c : Cut) (w : World) (hu : SI w u c.1) (h64 : in64C c) (hl : (lineT c).length ≤ 1000000) :
    Calls Tryz.prog 60 #[.agg #[u, .int .i64 c.2]] w (Ret w (.string (bs (lineT c)))) := by
  obtain ⟨xs, st⟩ := c
  have HU := Lib.hid hu
  obtain ⟨ua, uc, rfl, u1, u2⟩ := hu.sl
  dsimp only at u1 u2 ⊢
  have hum : xs.length ≤ 9223372036854775807 := by unfold maxLen at u2; omega
  have H64 := Lib.hid h64
  have HLEN : Hid (∀ k, (joinW ((xs.take k).map Lib.itoa)).length ≤ 1000000) := fun k => by
    rw [List.map_take]
    have := joinW_take_le (xs.map Lib.itoa) k
    have h2 : (joinW (xs.map Lib.itoa)).length ≤ (lineT (xs, st)).length := by unfold lineT lineB; simp <;> omega
    omega
  have HIT : Hid (∀ k, k < xs.length → (Lib.itoa (gi xs k)).length ≤ 1000000) := fun k hk => by
    have h1 := joinW_len (xs.map Lib.itoa) (Lib.itoa (gi xs k)) (List.mem_map_of_mem (gi_mem hk))
    have h2 : (joinW (xs.map Lib.itoa)).length ≤ (lineT (xs, st)).length := by unfold lineT lineB; simp <;> omega
    omega
  have HST : Hid ((Lib.itoa st).length ≤ 1000000) := by
    have h2 : (Lib.itoa st).length ≤ (lineT (xs, st)).length := by unfold lineT lineB; simp <;> omega
    show _ ≤ _
    omega
  clear hu h64 hl
  obtain ⟨W8, hW8⟩ : ∃ W8, W8 = w.alloc (.cells #[.slice ua xs.length uc, .int .i64 st] 54) := ⟨_, rfl⟩
  have hb8 : Below w.heap.size w W8 := by rw [hW8]; exact (Below.refl _ _).alloc (Nat.le_refl _) _
  have p0 : W8.cell? ⟨w.heap.size, 0, none⟩ = some (.slice ua xs.length uc) := by rw [hW8]; exact cell_new rfl rfl
  have p1 : W8.cell? ⟨w.heap.size, 1, none⟩ = some (.int .i64 st) := by rw [hW8]; exact cell_new rfl rfl
  have HS8 := Lib.hid (show W8.heap.size = w.heap.size + 1 by rw [hW8]; simp)
  have HB8 := Lib.hid hb8; have P0 := Lib.hid p0; have P1 := Lib.hid p1
  have HU8 := Lib.hid (HU.out.keep hb8)
  clear hb8 p0 p1
  go_enter Tryz.func60, Tryz.ntmps60
  go_wp2_with fail
  rw [← hW8]
  clear hW8
  go_loopw [3, 4] (fun sv i wr => ∃ (k : Nat) (s : ByteArray), k ≤ xs.length ∧ i = .int .i64 k ∧ sv = .string s ∧ s.size ≤ 1000000 ∧ Hid (Below W8.heap.size W8 wr) ∧ Hid (s = bs (joinW ((xs.take k).map Lib.itoa)))) (fun _ i _ => xs.length - (intOf i).toNat)
  case atStart => exact ⟨0, _, Nat.zero_le _, rfl, rfl, by decide, Below.refl _ _, rfl⟩
  case round =>
    obtain ⟨k, s, hk, rfl, rfl, hs, hbw, hse⟩ := hrel
    have p0 := cell_keep hbw.out P0.out
    have p1 := cell_keep hbw.out P1.out
    by_cases hlt : k < xs.length
    · have HUw := Lib.hid (HU8.out.keep hbw.out)
      obtain ⟨b, off, cap, hv, _, _, _, hcell⟩ := HUw.out.form (by omega)
      simp only [Value.slice.injEq] at hv
      obtain ⟨rfl, _, rfl⟩ := hv
      have hc := hcell k hlt
      clear hcell
      have i0 : (0 : Int) ≤ k := by omega
      have i1 : (k : Int) < xs.length := by omega
      have i2 : (k : Int) < uc := by omega
      have HX64 := Lib.hid (H64.out.2 _ (gi_mem hlt))
      have HJ : Hid (joinW ((xs.take (k + 1)).map Lib.itoa) = if k = 0 then Lib.itoa (gi xs k) else joinW ((xs.take k).map Lib.itoa) ++ 32 :: Lib.itoa (gi xs k)) := by
        show _ = _
        rw [take_succ_gi hlt, List.map_append, List.map_cons, List.map_nil, joinW_snoc]
        by_cases h0 : k = 0
        · subst h0; rw [if_pos (by simp), if_pos rfl]
        · rw [if_neg (fun h => by have := congrArg List.length h; rw [List.length_map, List.length_take, List.length_nil] at this; omega), if_neg h0]
      by_cases h0 : k = 0
      · subst h0
        rw [Nat.add_zero] at hc
        have hd : decide ((0 : Int) < ((0 : Nat) : Int)) = false := by decide
        have HNX : Hid (s ++ bs (Lib.itoa (gi xs 0)) = bs (joinW ((xs.take (0 + 1)).map Lib.itoa))) := by
          show _ = _
          rw [HJ.out, if_pos rfl, hse.out]
          exact bs_app [] _
        have HSZ : Hid ((s ++ bs (Lib.itoa (gi xs 0))).size ≤ 1000000) := by show _ ≤ _; rw [HNX.out, bs_size]; exact HLEN.out _
        have hz1 : (bs (Lib.itoa (gi xs 0))).size ≤ 1000000 := by rw [bs_size]; exact HIT.out _ hlt
        go_wp2_with fail
        refine (rText_any _ _ HX64.out).mono ?_
        rintro e w2 ⟨rfl, hb2⟩
        have HB2 := Lib.hid (ext_trans hbw.out hb2)
        clear hb2
        generalize bs (Lib.itoa (gi xs 0)) = z at *
        go_wp2_with fail
        go_roundw
        case rel => exact ⟨0 + 1, _, by omega, by go_num, rfl, HSZ.out, HB2, HNX.out⟩
        case measure => simp [intOf]; omega
      · have hd : 0 < k := by omega
        have HNX : Hid ((s ++ (⟨#[32]⟩ : ByteArray)) ++ bs (Lib.itoa (gi xs k)) = bs (joinW ((xs.take (k + 1)).map Lib.itoa))) := by
          show _ = _
          rw [HJ.out, if_neg h0, hse.out]
          show (bs _ ++ bs [32]) ++ bs _ = _
          rw [bs_app, bs_app]; simp
        have HSZ : Hid (((s ++ (⟨#[32]⟩ : ByteArray)) ++ bs (Lib.itoa (gi xs k))).size ≤ 1000000) := by show _ ≤ _; rw [HNX.out, bs_size]; exact HLEN.out _
        have hz1 : (bs (Lib.itoa (gi xs k))).size ≤ 1000000 := by rw [bs_size]; exact HIT.out _ hlt
        have hz2 : (⟨#[32]⟩ : ByteArray).size = 1 := rfl
        clear h0
        go_wp2_with fail
        refine (rText_any _ _ HX64.out).mono ?_
        rintro e w2 ⟨rfl, hb2⟩
        have HB2 := Lib.hid (ext_trans hbw.out hb2)
        clear hb2
        generalize bs (Lib.itoa (gi xs k)) = z at *
        go_wp2_with fail
        go_roundw
        case rel => exact ⟨k + 1, _, by omega, by go_num, rfl, HSZ.out, HB2, HNX.out⟩
        case measure => simp [intOf]; omega
    · obtain rfl : k = xs.length := by omega
      have HNX : Hid (((s ++ (⟨#[58, 32]⟩ : ByteArray)) ++ bs (Lib.itoa st)) ++ (⟨#[10]⟩ : ByteArray) = bs (lineT (xs, st))) := by
        show _ = _
        rw [hse.out, List.take_length]
        show ((bs _ ++ bs [58, 32]) ++ bs _) ++ bs [10] = _
        rw [bs_app, bs_app, bs_app]; unfold lineT lineB; simp
      have hz1 : (bs (Lib.itoa st)).size ≤ 1000000 := by rw [bs_size]; exact HST.out
      have hz2 : (⟨#[58, 32]⟩ : ByteArray).size = 2 := rfl
      have hz3 : (⟨#[10]⟩ : ByteArray).size = 1 := rfl
      have HS64 := Lib.hid H64.out.1
      go_wp2_with fail
      refine (rText_any _ _ HS64.out).mono ?_
      rintro e w2 ⟨rfl, hb2⟩
      have HB2 := Lib.hid (HB8.out.trans ((ext_trans hbw.out hb2).mono HB8.out.size))
      clear hb2
      generalize bs (Lib.itoa st) = z at *
      go_wp2_with fail
      go_ret
      exact ⟨congrArg (fun x => Ending.returned (.string x)) HNX.out, HB2.out⟩

set_option maxHeartbeats 2000000 in
set_option maxRecDepth 100000 in
theorem rText38_any (v : Value) (L : List Cut) (w : World) (h : SC w v L) (h64 : ∀ c ∈ L, in64C c) (hl : (textT L).length ≤ 1000000) :
    Calls Tryz.prog 28 #[v] w (Ret w (.string (bs (textT L)))) := by
  have H := Lib.hid h; have H64 := Lib.hid h64
  obtain ⟨a, cap, rfl, h1, h2, h3⟩ := h
  have H3 := Lib.hid h3
  have hm : L.length ≤ 9223372036854775807 := by unfold maxLen at h2; omega
  have HLN : Hid (∀ k, k < L.length → (lineT (ci L k)).length ≤ 1000000) := fun k hk => Nat.le_trans (line_le hk) hl
  have HTN : Hid (∀ k, (textT (L.take k)).length ≤ 1000000) := fun k => Nat.le_trans (textT_take_le L k) hl
  clear h3 h64 hl
  go_enter Tryz.func28, Tryz.ntmps28
  go_wp2_with fail
  go_loopw [3, 4] (fun sv i wr => ∃ (k : Nat) (s : ByteArray), k ≤ L.length ∧ i = .int .i64 k ∧ sv = .string s ∧ s.size ≤ 1000000 ∧ Hid (Below w.heap.size w wr) ∧ Hid (s = bs (textT (L.take k)))) (fun _ i _ => L.length - (intOf i).toNat)
  case atStart => exact ⟨0, _, Nat.zero_le _, rfl, rfl, by decide, Below.refl _ _, rfl⟩
  case round =>
    obtain ⟨k, s, hk, rfl, rfl, hs, hbw, hse⟩ := hrel
    by_cases hlt : k < L.length
    · obtain ⟨b, off, u, rfl, hcu⟩ := H3.out k hlt
      have hcw := hcu.keep hbw.out
      obtain ⟨d0, d1, _⟩ := hcw
      have HSu := Lib.hid (hcu.s.keep hbw.out)
      obtain ⟨ua, uc, rfl, u1, u2⟩ := hcu.s.sl
      clear hcu
      have i0 : (0 : Int) ≤ k := by omega
      have i1 : (k : Int) < L.length := by omega
      have i2 : (k : Int) < cap := by omega
      have HC64 := Lib.hid (H64.out _ (ci_mem hlt))
      have HNX : Hid (s ++ bs (lineT (ci L k)) = bs (textT (L.take (k + 1)))) := by
        show _ = _
        rw [hse.out, bs_app, textT_take hlt]
      have HSZ : Hid ((s ++ bs (lineT (ci L k))).size ≤ 1000000) := by show _ ≤ _; rw [HNX.out, bs_size]; exact HTN.out _
      have hz1 : (bs (lineT (ci L k))).size ≤ 1000000 := by rw [bs_size]; exact HLN.out k hlt
      have HL1 := Lib.hid (HLN.out k hlt)
      go_wp2_with fail
      refine (rline_any _ (ci L k) _ HSu.out HC64.out HL1.out).mono ?_
      rintro e w2 ⟨rfl, hb2⟩
      have HB2 := Lib.hid (ext_trans hbw.out hb2)
      clear hb2
      generalize bs (lineT (ci L k)) = z at *
      go_wp2_with fail
      go_roundw
      case rel => exact ⟨k + 1, _, by omega, by go_num, rfl, HSZ.out, HB2, HNX.out⟩
      case measure => simp [intOf]; omega
    · obtain rfl : k = L.length := by omega
      have HNX : Hid (s = bs (textT L)) := by have := hse.out; rw [List.take_length] at this; exact this
      go_wp2_with fail
      go_ret
      exact ⟨congrArg (fun x => Ending.returned (.string x)) HNX.out, hbw.out⟩
end Go.Proofs.YtehbnckdllbmgaaGreatDoor
