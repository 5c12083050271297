import Derived.Test.YtnjmdkecpadehaaU4
set_option linter.all false
set_option linter.unusedSimpArgs false
namespace Go.Proofs.Ytnjmdkecpadehaa
open M
def bitlen (n : Nat) : Nat := if n = 0 then 0 else n.log2 + 1
theorem bitlen_le {n k : Nat} : bitlen n ≤ k ↔ n < 2 ^ k := by
  unfold bitlen
  by_cases h : n = 0
  · subst h; simp
    exact Nat.two_pow_pos k
  · rw [if_neg h, ← Nat.log2_lt h]
    omega
theorem bitlen_div {n s : Nat} (h : 2 ^ s ≤ n) : bitlen n = s + bitlen (n / 2 ^ s) := by
  have key : ∀ m, bitlen n ≤ s + m ↔ bitlen (n / 2 ^ s) ≤ m := fun m => by
    rw [bitlen_le, bitlen_le, Nat.div_lt_iff_lt_mul (Nat.two_pow_pos s), Nat.pow_add, Nat.mul_comm]
  have h1 := (key (bitlen (n / 2 ^ s))).2 (Nat.le_refl _)
  have h2 : s ≤ bitlen n := by
    rcases Nat.lt_or_ge (bitlen n) s with g | g
    · have : n < 2 ^ s := bitlen_le.1 (by omega)
      omega
    · exact g
  have h3 := (key (bitlen n - s)).1 (by omega)
  omega
theorem tab_len : ∃ tab : ByteArray, r_math_bits_Len64_10 = [⟨(some 19), none, .mov (.t 2)⟩, ⟨(some 20), none, .mov (.t 0)⟩, ⟨(some 21), none, .conv .u8 (.t 20)⟩, ⟨(some 22), none, .idx (.c (.string tab)) (.t 21)⟩, ⟨(some 23), none, .conv .i64 (.t 22)⟩, ⟨(some 24), none, .bin .add (.t 19) (.t 23)⟩, ⟨(some 2), none, .mov (.t 24)⟩] ∧
    (List.range 256).all (fun j => decide (tab.data.toList[j]? = some (UInt8.ofNat (bitlen j)))) = true := ⟨_, rfl, by kernel_rfl⟩
theorem shr_nat {k k' : IntKind} {x s : Nat} {s' : Int} (hs' : s' = (s : Int)) (hs : s ≤ k.bits) : binV .shr (.int k (x : Int)) (.int k' s') = some (.int k ((x / 2 ^ s : Nat) : Int)) := by
  subst hs'
  simp only [binV, isShift, if_true, shiftBy]
  rw [if_neg (by omega)]
  simp only [Int.toNat_natCast, Nat.min_eq_left hs]
  rw [Int.fdiv_eq_ediv_of_nonneg _ (by exact_mod_cast Nat.zero_le (2 ^ s)), show ((2 : Int) ^ s) = ((2 ^ s : Nat) : Int) by norm_cast, ← Int.natCast_ediv]
theorem p_Len64 (x : Nat) (hx : x < 18446744073709551616) : Pure F n_math_bits_Len64 [.v (.int .u64 (x : Int))] (iV (bitlen x)) := by
  obtain ⟨tab, e10, htab⟩ := tab_len
  have ht : ∀ j, j < 256 → tab.data.toList[j]? = some (UInt8.ofNat (bitlen j)) := fun j hj => by
    rw [List.all_eq_true] at htab
    simpa using htab j (List.mem_range.2 hj)
  have hbl : ∀ j, j < 256 → (UInt8.ofNat (bitlen j)).toNat = bitlen j := fun j hj => by
    have : bitlen j ≤ 8 := bitlen_le.2 (by omega)
    rw [UInt8.toNat_ofNat']
    omega
  have hw8 : ∀ j : Nat, j < 256 → IntKind.u8.wrap (j : Int) = (j : Int) := fun j hj => by rw [IntKind.wrap_u8]; omega
  have hwi : ∀ j : Nat, j < 256 → IntKind.i64.wrap (bitlen j : Int) = (bitlen j : Int) := fun j hj => by
    have : bitlen j ≤ 8 := bitlen_le.2 (by omega)
    rw [wrap_id (by omega)]
  refine PureP.start (m := c_math_bits_Len64) (by kernel_rfl) rfl ?_
  have s32 : ∀ y : Nat, binV .shr (.int .u64 (y : Int)) (.int .u64 32) = some (.int .u64 ((y / 4294967296 : Nat) : Int)) := fun y => shr_nat (s := 32) rfl (by decide)
  have s16 : ∀ y : Nat, binV .shr (.int .u64 (y : Int)) (.int .u64 16) = some (.int .u64 ((y / 65536 : Nat) : Int)) := fun y => shr_nat (s := 16) rfl (by decide)
  have s8 : ∀ y : Nat, binV .shr (.int .u64 (y : Int)) (.int .u64 8) = some (.int .u64 ((y / 256 : Nat) : Int)) := fun y => shr_nat (s := 8) rfl (by decide)
  -- the steps, one behind the other
  have last : ∀ (e : NEnv) (y : Nat) (s : Nat), nlook e 0 = some (.v (.int .u64 (y : Int))) → nlook e 2 = some (iV (s : Int)) → y < 256 → s ≤ 56 → s + bitlen y = bitlen x → nops F r_math_bits_Len64_10 e ⟨0, []⟩ (nreg [2] (nseq F C.ret (nbody [.t 2] (nends fun w => w = iV (bitlen x))))) := fun e y s h0 h2 hy hs hb => by
    have : bitlen y ≤ 8 := bitlen_le.2 (by omega)
    have hadd : IntKind.i64.wrap ((s : Int) + (bitlen y : Int)) = (bitlen x : Int) := by rw [wrap_id (by omega)]; omega
    simp -implicitDefEqProofs [e10, h0, h2, hw8 y hy, ht y hy, hbl y hy, hwi y hy, hadd]
  have third : ∀ (e : NEnv) (y : Nat) (s : Nat), nlook e 0 = some (.v (.int .u64 (y : Int))) → nlook e 2 = some (iV (s : Int)) → y < 65536 → s ≤ 48 → s + bitlen y = bitlen x → nops F r_math_bits_Len64_7 e ⟨0, []⟩ (nreg [0, 2, 14] (nseq F (C.cond (.t 14) (C.seq (C.reg r_math_bits_Len64_8 [0, 2]) (C.reg r_math_bits_Len64_9 [0, 2])) .skip) (nseq F (C.seq (C.reg r_math_bits_Len64_10 [2]) C.ret) (nbody [.t 2] (nends fun w => w = iV (bitlen x)))))) := fun e y s h0 h2 hy hs hb => by
    by_cases c : 256 ≤ y
    · have hd : bitlen y = 8 + bitlen (y / 256) := bitlen_div (n := y) (s := 8) c
      have hadd : IntKind.i64.wrap ((s : Int) + 8) = ((s + 8 : Nat) : Int) := by rw [wrap_id (by omega)]; omega
      simp -implicitDefEqProofs [r_math_bits_Len64_7, r_math_bits_Len64_8, r_math_bits_Len64_9, h0, h2, (show (256 : Int) ≤ (y : Int) by omega), s8, hadd]
      refine last _ (y / 256) (s + 8) ?_ ?_ (by omega) (by omega) (by omega)
      · simp
      · simp
    · simp -implicitDefEqProofs [r_math_bits_Len64_7, h0, h2, (show ¬ (256 : Int) ≤ (y : Int) by omega)]
      refine last _ y s ?_ ?_ (by omega) (by omega) hb
      · simp
      · simp
  have second : ∀ (e : NEnv) (y : Nat) (s : Nat), nlook e 0 = some (.v (.int .u64 (y : Int))) → nlook e 2 = some (iV (s : Int)) → y < 4294967296 → s ≤ 32 → s + bitlen y = bitlen x → nops F r_math_bits_Len64_4 e ⟨0, []⟩ (nreg [0, 2, 8] (nseq F (C.cond (.t 8) (C.seq (C.reg r_math_bits_Len64_5 [0, 2]) (C.reg r_math_bits_Len64_6 [0, 2])) .skip) (nseq F (C.seq (C.seq (C.reg r_math_bits_Len64_7 [0, 2, 14]) (C.cond (.t 14) (C.seq (C.reg r_math_bits_Len64_8 [0, 2]) (C.reg r_math_bits_Len64_9 [0, 2])) .skip)) (C.seq (C.reg r_math_bits_Len64_10 [2]) C.ret)) (nbody [.t 2] (nends fun w => w = iV (bitlen x)))))) := fun e y s h0 h2 hy hs hb => by
    by_cases c : 65536 ≤ y
    · have hd : bitlen y = 16 + bitlen (y / 65536) := bitlen_div (n := y) (s := 16) c
      have hadd : IntKind.i64.wrap ((s : Int) + 16) = ((s + 16 : Nat) : Int) := by rw [wrap_id (by omega)]; omega
      simp -implicitDefEqProofs [r_math_bits_Len64_4, r_math_bits_Len64_5, r_math_bits_Len64_6, h0, h2, (show (65536 : Int) ≤ (y : Int) by omega), s16, hadd]
      refine third _ (y / 65536) (s + 16) ?_ ?_ (by omega) (by omega) (by omega)
      · simp
      · simp
    · simp -implicitDefEqProofs [r_math_bits_Len64_4, h0, h2, (show ¬ (65536 : Int) ≤ (y : Int) by omega)]
      refine third _ y s ?_ ?_ (by omega) (by omega) hb
      · simp
      · simp
  by_cases c : 4294967296 ≤ x
  · have hd : bitlen x = 32 + bitlen (x / 4294967296) := bitlen_div (n := x) (s := 32) c
    simp -implicitDefEqProofs [c_math_bits_Len64, r_math_bits_Len64_0, r_math_bits_Len64_1, r_math_bits_Len64_2, r_math_bits_Len64_3, (show (4294967296 : Int) ≤ (x : Int) by omega), s32]
    refine second _ (x / 4294967296) 32 ?_ ?_ (by omega) (by omega) (by omega)
    · simp
    · simp
  · simp -implicitDefEqProofs [c_math_bits_Len64, r_math_bits_Len64_0, r_math_bits_Len64_1, (show ¬ (4294967296 : Int) ≤ (x : Int) by omega)]
    refine second _ x 0 ?_ ?_ (by omega) (by omega) (by omega)
    · simp
    · simp
/-! bytes of a number -/
def be (n : Nat) : List UInt8 := if h : n = 0 then [] else be (n / 256) ++ [UInt8.ofNat n]
termination_by n
theorem be_zero : be 0 = [] := by unfold be; simp
theorem be_pos {n : Nat} (h : n ≠ 0) : be n = be (n / 256) ++ [UInt8.ofNat n] := by rw [be, dif_neg h]
theorem be_len (n : Nat) : (be n).length = (bitlen n + 7) / 8 := by
  induction n using Nat.strongRecOn with
  | ind n ih =>
    by_cases h : n = 0
    · subst h; rw [be_zero]; rfl
    · rw [be_pos h, List.length_append, ih (n / 256) (by omega)]
      by_cases c : 256 ≤ n
      · have hd : bitlen n = 8 + bitlen (n / 256) := bitlen_div (n := n) (s := 8) c
        simp only [List.length_singleton]
        omega
      · have h1 : bitlen n ≤ 8 := bitlen_le.2 (by omega)
        have h2 : ¬ bitlen n ≤ 0 := fun h9 => by have := bitlen_le.1 h9; omega
        have h3 : n / 256 = 0 := by omega
        rw [h3]
        have : bitlen 0 = 0 := rfl
        simp only [List.length_singleton]
        omega
theorem p_size (x : Nat) (hx : x < 9223372036854775808) : Pure F n_word_size [iV (x : Int)] (iV ((be x).length : Int)) := by
  have hb : bitlen x ≤ 63 := bitlen_le.2 hx
  have w1 : IntKind.u64.wrap (x : Int) = (x : Int) := by rw [IntKind.wrap_u64]; omega
  have w2 : IntKind.i64.wrap ((bitlen x : Int) + 7) = ((bitlen x + 7 : Nat) : Int) := by rw [wrap_id (by omega)]; omega
  have w3 : IntKind.i64.wrap (Int.tdiv ((bitlen x : Int) + 7) 8) = ((be x).length : Int) := by
    rw [be_len, Int.tdiv_eq_ediv_of_nonneg (by omega), wrap_id (by omega)]
    omega
  refine PureP.start (m := c_word_size) (by kernel_rfl) rfl ?_
  simp -implicitDefEqProofs [c_word_size, r_word_size_0, r_word_size_1, w1]
  refine (p_Len64 x (by omega)).call1 (by simp) ?_
  simp -implicitDefEqProofs [w2, w3]
end Go.Proofs.Ytnjmdkecpadehaa
