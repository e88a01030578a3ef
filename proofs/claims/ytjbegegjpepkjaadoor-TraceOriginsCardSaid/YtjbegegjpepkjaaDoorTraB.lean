/- Contracts of the references: sixteen hexadecimal digits; the decimal numeral. -/
import Derived.Test.YtjbegegjpepkjaaDoorTraA
import Derived.Test.YtjbegegjpepkjaaDoorIdSeal
import Derived.Laws.IdiomStrings
import Derived.IntWalk
import Derived.Outline
namespace Go.Proofs.YtjbegegjpepkjaaDoor
open Go.RowKit

theorem hexK_cons (k n : Nat) : hexK (k + 1) n = hexD (n / 16 ^ k % 16) :: hexK k n := by
  unfold hexK
  rw [List.range_succ_eq_map, List.map_cons, List.map_map]
  congr 1
  apply List.map_congr_left
  intro i hi
  show hexD (n / 16 ^ (k + 1 - 1 - (i + 1)) % 16) = _
  rw [show k + 1 - 1 - (i + 1) = k - 1 - i by omega]
def hexS : ByteArray := ⟨#[48, 49, 50, 51, 52, 53, 54, 55, 56, 57, 97, 98, 99, 100, 101, 102]⟩
theorem hexS_fin : ∀ r : Fin 16, (hexS.extract r.val (r.val + 1)).data.toList = [hexD r.val] := by decide +kernel
theorem hexS_at {r : Nat} (h : r < 16) : (hexS.extract r (r + 1)).data.toList = [hexD r] := hexS_fin ⟨r, h⟩
theorem hexS_slice (w : World) (r : Nat) (h : r < 16) : (Instr.slice 9 (.string hexS) (some (.int .u64 (r : Int))) (some (.int .u64 ((r : Int) + 1))) none).run Tryd.prog w = .ok (.string (hexS.extract r (r + 1))) w := by
  have hz : hexS.size = 16 := rfl
  exact run_slice_string (P := Tryd.prog) w 9 hexS .u64 .u64 r (r + 1) Tryd.underlying9 (by omega) (by omega) (by rw [hz]; omega)
theorem div_pow_succ (N k : Nat) : N / 16 ^ k / 16 = N / 16 ^ (k + 1) := by rw [Nat.div_div_eq_div_mul, ← Nat.pow_succ]

set_option maxHeartbeats 1000000 in
set_option maxRecDepth 100000 in
theorem rhex_any (N : Nat) (w : World) (hN : N < 18446744073709551616) : Calls Tryd.prog 45 #[.int .u64 N] w fun e w' => e = .returned (.string ⟨(hexL N).toArray⟩) ∧ ∃ m, w' = w.drewN m := by
  go_enter Tryd.func45, Tryd.ntmps45
  go_wp2_with fail
  go_loop [0, 3, 4] (fun n x i => ∃ (k q : Nat) (s : ByteArray), k ≤ 16 ∧ i = .int .i64 k ∧ n = .int .u64 q ∧ x = .string s ∧ q < 18446744073709551616 ∧ s.size ≤ 16 ∧ Hid (q = N / 16 ^ k) ∧ Hid (s.data.toList = hexK k N)) (fun _ _ i => 16 - (intOf i).toNat)
  case atStart => exact ⟨0, N, _, by omega, rfl, rfl, rfl, hN, by decide, by show N = N / 1; omega, rfl⟩
  case round =>
    obtain ⟨k, q, s, hk, rfl, rfl, rfl, hq, hs, HQ, HS⟩ := hrel
    by_cases hlt : k < 16
    · obtain ⟨r, hr⟩ : ∃ r, q % 16 = r := ⟨_, rfl⟩
      obtain ⟨q', hq'⟩ : ∃ r, q / 16 = r := ⟨_, rfl⟩
      have hr2 : r < 16 := by omega
      have f1 : (q : Int) % 16 = r := by omega
      have f2 : (q : Int) / 16 = q' := by omega
      have hq2 : q' < 18446744073709551616 := by omega
      have HQ2 : Hid (q' = N / 16 ^ (k + 1)) := by show _ = _; rw [← hq', HQ.out, div_pow_succ]
      have HE : Hid ((hexS.extract r (r + 1) ++ s).data.toList = hexK (k + 1) N) := by
        show _ = _
        rw [hexK_cons, ← HQ.out, hr, ← HS.out, ← List.singleton_append, ← hexS_at hr2]
        simp
      have hz : s.size ≤ k := by have := congrArg List.length HS.out; rw [size_data, hexK_length] at this; omega
      have HZ : Hid ((hexS.extract r (r + 1) ++ s).size ≤ 16) := by
        have := congrArg List.length HE.out; rw [size_data, hexK_length] at this; show _ ≤ _; omega
      clear hr hq' hz
      obtain ⟨d, hd⟩ : ∃ d, hexS.extract r (r + 1) = d := ⟨_, rfl⟩
      rw [hd] at HE HZ
      have hdz : d.size ≤ 1 := by rw [← hd]; simp; omega
      have hsl := fun W : World => hexS_slice W r hr2
      rw [hd] at hsl
      unfold hexS at hsl
      clear hd
      go_wp2_with fail
      go_round
      case rel => exact ⟨k + 1, q', _, by omega, by go_num, rfl, rfl, hq2, HZ.out, HQ2.out, HE.out⟩
      case measure => simp [intOf]; omega
    · obtain rfl : k = 16 := by omega
      go_wp2_with fail
      go_ret
      exact ⟨congrArg (fun x => Ending.returned (.string x)) (by rw [hexL_K, ← HS.out]), 0, rfl⟩

theorem mag_any (n : Nat) (w : World) (hn : n ≤ 9223372036854775807) : Calls Tryd.prog 55 #[.int .i64 n] w fun e w' => e = .returned (.int .u64 n) ∧ w = w' := by
  have h0 : ¬ ((n : Int) < 0) := by omega
  go_enter Tryd.func55, Tryd.ntmps55
  go_wp2_with fail
  go_ret
  exact ⟨rfl, rfl⟩
def TxI (n m : Nat) (l : List UInt8) : Prop := (l = [] ∧ m = n) ∨ (l ≠ [] ∧ ((m = 0 ∧ l = Lib.decDigits n) ∨ (0 < m ∧ Lib.decDigits m ++ l = Lib.decDigits n)))
def txM (n z m : Nat) : Nat := if z = 0 then n + 1 else m
theorem txM_lt {n z z' m m' : Nat} (h : m' ≤ n) (h1 : z' ≠ 0) (h2 : 0 < m → m' < m) (h3 : 0 < m ∨ z = 0) : txM n z' m' < txM n z m := by
  unfold txM; rw [if_neg h1]; split <;> omega
theorem TxI.start (n : Nat) : TxI n n [] := .inl ⟨rfl, rfl⟩
theorem TxI.len {n m : Nat} {l : List UInt8} (h : TxI n m l) (hn : n < 18446744073709551616) : l.length ≤ 20 := by
  have hd : (Lib.decDigits n).length ≤ 20 := by
    rw [Lib.decDigits_length]
    by_cases h0 : n < 10
    · rw [Lib.nDigits_small h0]; omega
    · have := Lib.numDigits_eq n (by omega) hn; split at this <;> omega
  rcases h with ⟨rfl, _⟩ | ⟨_, ⟨_, rfl⟩ | ⟨_, h⟩⟩
  · simp
  · exact hd
  · have := congrArg List.length h
    rw [List.length_append] at this; omega
theorem dec_big {m : Nat} (h : ¬ m < 10) : Lib.decDigits m = Lib.decDigits (m / 10) ++ [UInt8.ofNat (48 + m % 10)] := by
  rw [Lib.decDigits, dif_neg h]
theorem TxI.step {n m : Nat} {l : List UInt8} (h : TxI n m l) (hm : 0 < m ∨ l = []) : TxI n (m / 10) (UInt8.ofNat (48 + m % 10) :: l) := by
  right
  refine ⟨by simp, ?_⟩
  by_cases h10 : m < 10
  · left
    refine ⟨by omega, ?_⟩
    have e : Lib.decDigits m = [UInt8.ofNat (48 + m % 10)] := by rw [Lib.decDigits_one h10, Nat.mod_eq_of_lt h10]
    rcases h with ⟨rfl, rfl⟩ | ⟨_, ⟨rfl, _⟩ | ⟨_, h⟩⟩
    · rw [e]
    · rcases hm with h0 | rfl
      · omega
      · contradiction
    · rw [← h, e]; rfl
  · right
    refine ⟨by omega, ?_⟩
    rcases h with ⟨rfl, rfl⟩ | ⟨_, ⟨rfl, _⟩ | ⟨_, h⟩⟩
    · rw [dec_big h10]
    · omega
    · rw [← h, dec_big h10]; simp
theorem TxI.done {n m : Nat} {l : List UInt8} (h : TxI n m l) (hm : m = 0) (hl : l ≠ []) : l = Lib.decDigits n := by
  rcases h with ⟨rfl, _⟩ | ⟨_, ⟨_, h⟩ | ⟨h0, _⟩⟩
  · exact absurd rfl hl
  · exact h
  · omega

set_option maxHeartbeats 1000000 in
set_option maxRecDepth 100000 in
theorem rText_any (n : Nat) (w : World) (hn : n ≤ 9223372036854775807) : Calls Tryd.prog 44 #[.int .i64 n] w fun e w' => e = .returned (.string ⟨(Lib.decDigits n).toArray⟩) ∧ Below w.heap.size w w' := by
  have h0 : ¬ ((n : Int) < 0) := by omega
  go_enter Tryd.func44, Tryd.ntmps44
  go_wp2_with fail
  refine (mag_any n _ hn).mono ?_
  rintro e w1 ⟨rfl, rfl⟩
  go_wp2_with fail
  go_loopg [3, 4] (n + 1) (fun g x mm wr => ∃ (m : Nat) (s : ByteArray), m ≤ n ∧ x = .string s ∧ mm = .int .u64 m ∧ g = txM n s.size m ∧ s.size ≤ 20 ∧ Hid (TxI n m s.data.toList) ∧ Hid (Below w.heap.size w wr))
  case atStart => exact ⟨n, _, Nat.le_refl _, rfl, rfl, rfl, by decide, TxI.start n, Below.refl _ _⟩
  case round =>
    obtain ⟨m, s, hm, rfl, rfl, rfl, hs, HT, hbw⟩ := hrel
    by_cases hp : 0 < m ∨ s.size = 0
    · obtain ⟨p, hp'⟩ : ∃ p, 48 + m % 10 = p := ⟨_, rfl⟩
      obtain ⟨m', hm'⟩ : ∃ p, m / 10 = p := ⟨_, rfl⟩
      have f1 : (48 : Int) + (m : Int) % 10 = p := by omega
      have f2 : (m : Int) / 10 = m' := by omega
      have hp2 : p < 256 := by omega
      have hmm : m ≤ 9223372036854775807 := by omega
      have hm2 : m' ≤ n := by omega
      have HT2 : Hid (TxI n m' (((⟨[UInt8.ofNat p].toArray⟩ : ByteArray) ++ s).data.toList)) := by
        have := HT.out.step (hp.imp id fun h => by have := size_data s; exact List.eq_nil_of_length_eq_zero (by omega))
        rw [hm', hp'] at this
        show TxI _ _ _
        simpa using this
      have HZ : Hid (((⟨[UInt8.ofNat p].toArray⟩ : ByteArray) ++ s).size ≤ 20) := by
        have := HT2.out.len (by omega); rw [size_data] at this; exact this
      have HZ1 : Hid (((⟨[UInt8.ofNat p].toArray⟩ : ByteArray) ++ s).size ≠ 0) := by
        show _ ≠ _; rw [← size_data]; simp
      have HG : Hid (txM n (((⟨[UInt8.ofNat p].toArray⟩ : ByteArray) ++ s).size) m' < txM n s.size m) := txM_lt hm2 HZ1.out (fun h => by omega) hp
      have hcv := fun (W : World) => run_convert_bytes_back (P := Tryd.prog) (W.alloc (.cells #[.int .u8 p] 5)) 42 9 5 ⟨W.heap.size, 0, none⟩ 1 [UInt8.ofNat p] Tryd.underlying42 Tryd.underlying5 Tryd.underlying9 (by
        intro j hj
        have e1 : (UInt8.ofNat p).toNat = p := by rw [UInt8.toNat_ofNat']; omega
        match j, hj with
        | 0, _ => simp [Addr.add, e1])
      change ∀ W, Sem.run _ (convert _ _ (.slice _ 1 _)) _ = _ at hcv
      have HC := Lib.hid hcv
      clear hp' hm'
      by_cases h0m : 0 < m
      · have b1 : decide ((0 : Int) < m) = true := by rw [decide_eq_true_eq]; omega
        go_wp2_with (simp only [hcv])
        go_roundg (txM n (((⟨[UInt8.ofNat p].toArray⟩ : ByteArray) ++ s).size) m')
        case measure => exact HG.out
        case rel => exact ⟨m', _, hm2, rfl, rfl, rfl, HZ.out, HT2.out, hbw.out.alloc hbw.out.size _⟩
      · obtain rfl : m = 0 := by omega
        have hz0 : s.size = 0 := by omega
        have hse := byte_empty hz0
        subst hse
        obtain rfl : p = 48 := by omega
        obtain rfl : m' = 0 := by omega
        have hcv0 : ∀ W : World, (convert 42 9 (.slice (some ⟨W.heap.size, 0, none⟩) 1 1)).run Tryd.prog (W.alloc (.cells #[.int .u8 48] 5)) = .ok (.string ⟨[UInt8.ofNat 48].toArray⟩) (W.alloc (.cells #[.int .u8 48] 5)) := HC.out
        clear HC hcv
        go_wp2_with (simp only [hcv0])
        go_roundg (txM n (((⟨[UInt8.ofNat 48].toArray⟩ : ByteArray) ++ (⟨#[]⟩ : ByteArray)).size) 0)
        case measure => exact HG.out
        case rel => exact ⟨0, _, Nat.zero_le _, rfl, rfl, rfl, HZ.out, HT2.out, hbw.out.alloc hbw.out.size _⟩
    · obtain rfl : m = 0 := by omega
      have hz0 : s.size ≠ 0 := by omega
      have HN : Hid (s.data.toList = Lib.decDigits n) := HT.out.done rfl (by intro h; rw [← size_data, h] at hz0; exact hz0 rfl)
      have hne : s.toList.isEmpty = false := by
        rw [toList_data]
        cases h : s.data.toList with
        | nil => rw [← size_data, h] at hz0; exact absurd rfl hz0
        | cons x xs => rfl
      have hne2 : s.toList = [] ↔ False := by rw [iff_false]; intro h; rw [h] at hne; cases hne
      clear hp hz0
      go_wp2_with fail
      go_ret
      exact ⟨congrArg (fun x => Ending.returned (.string x)) (by rw [← HN.out]), hbw.out⟩
end Go.Proofs.YtjbegegjpepkjaaDoor
