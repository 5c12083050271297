import Derived.Test.YtnjmdkecpadehaaU5
set_option linter.all false
set_option linter.unusedSimpArgs false
namespace Go.Proofs.Ytnjmdkecpadehaa
open M
/-! strings.Builder -/
def bldE : NRow := ⟨[[.v (.pointer none), .nils]], 2, 77, true, some 77⟩
def bldN (r b n : Nat) : NRow := ⟨[[.ptr r 0 0, .sl b 0 n n]], 2, 77, true, some 77⟩
def bytesEl (bs : List UInt8) : List (List NV) := bs.map fun b => [.v (.int .u8 (b.toNat : Int))]
@[simp] theorem bytesEl_length (bs : List UInt8) : (bytesEl bs).length = bs.length := by unfold bytesEl; rw [List.length_map]
theorem bytesEl_snoc (bs : List UInt8) (c : UInt8) : bytesEl (bs ++ [c]) = bytesEl bs ++ [[.v (.int .u8 (c.toNat : Int))]] := by unfold bytesEl; rw [List.map_append]; rfl
theorem nstr_bytesEl : ∀ bs : List UInt8, nstr (bytesEl bs) = some bs
  | [] => rfl
  | b :: r => by
    have := nstr_bytesEl r
    unfold bytesEl at this ⊢
    rw [List.map_cons]
    simp only [nstr, this]
    simp
/-- A Builder in which these bytes stand. -/
def BSt (r : Nat) (bs : List UInt8) (h : NHeap) : Prop := (bs = [] ∧ r < h.nx ∧ h.rows = [(r, bldE)]) ∨ (bs ≠ [] ∧ ∃ b, b ≠ r ∧ b < h.nx ∧ r < h.nx ∧ h.rows = [(b, ⟨bytesEl bs, 1, 1, true, some 5⟩), (r, bldN r b bs.length)])
theorem p_copyCheck1 (nx r : Nat) : NCall F n_strings_Builder_copyCheck [.ptr r 0 0] ⟨nx, [(r, bldE)]⟩ fun w h => h = ⟨nx, [(r, ⟨[[.ptr r 0 0, .nils]], 2, 77, true, some 77⟩)]⟩ := by
  refine NCall.code (m := c_strings_Builder_copyCheck) (by kernel_rfl) rfl ?_
  simp -implicitDefEqProofs [c_strings_Builder_copyCheck, r_strings_Builder_copyCheck_0, r_strings_Builder_copyCheck_1, r_strings_Builder_copyCheck_2, bldE]
theorem p_copyCheck2 (nx r b n : Nat) (row : NRow) (hb : b ≠ r) : NCall F n_strings_Builder_copyCheck [.ptr r 0 0] ⟨nx, [(b, row), (r, bldN r b n)]⟩ fun w h => h = ⟨nx, [(b, row), (r, bldN r b n)]⟩ := by
  refine NCall.code (m := c_strings_Builder_copyCheck) (by kernel_rfl) rfl ?_
  simp -implicitDefEqProofs [c_strings_Builder_copyCheck, r_strings_Builder_copyCheck_0, r_strings_Builder_copyCheck_1, r_strings_Builder_copyCheck_2, bldN, hb]
theorem p_WriteByte {r : Nat} {bs : List UInt8} {h : NHeap} (hb : BSt r bs h) (c : UInt8) (hroom : bs.length + 1 ≤ 140737488355328) : NCall F n_strings_Builder_WriteByte [.ptr r 0 0, .v (.int .u8 (c.toNat : Int))] h fun _ h' => BSt r (bs ++ [c]) h' := by
  obtain ⟨nx, rows⟩ := h
  rcases hb with ⟨rfl, hr, hrows⟩ | ⟨hne, b, hbr, hb, hr, hrows⟩
  · simp only at hr hrows
    subst hrows
    refine NCall.sub (NCall.code (m := c_strings_Builder_WriteByte) (by kernel_rfl) rfl ?_)
    simp -implicitDefEqProofs [c_strings_Builder_WriteByte, r_strings_Builder_WriteByte_0, r_strings_Builder_WriteByte_1, r_strings_Builder_WriteByte_2, r_strings_Builder_WriteByte_3]
    refine (p_copyCheck1 nx r).mono fun w h' e => ?_
    subst e
    have f1 : ¬ nx = r := by omega
    have f2 : ¬ nx + 1 = r := by omega
    simp -implicitDefEqProofs [f1, f2]
    refine ⟨⟨nx + 1 + 1, [(nx + 1, ⟨bytesEl [c], 1, 1, true, some 5⟩), (r, bldN r (nx + 1) 1)]⟩, ⟨rfl, fun x row hx => ?_⟩, .inr ⟨by simp, nx + 1, by omega, by simp, by simp; omega, rfl⟩⟩
    simp only [NHeap.get, getR] at hx ⊢
    split at hx
    · rename_i h1; rw [if_pos h1]; exact hx
    · rename_i h1
      split at hx
      · rename_i h2
        rw [if_neg h1, if_neg (by omega), if_pos h2]; exact hx
      · cases hx
  · simp only at hb hr hrows
    subst hrows
    refine NCall.sub (NCall.code (m := c_strings_Builder_WriteByte) (by kernel_rfl) rfl ?_)
    simp -implicitDefEqProofs [c_strings_Builder_WriteByte, r_strings_Builder_WriteByte_0, r_strings_Builder_WriteByte_1, r_strings_Builder_WriteByte_2, r_strings_Builder_WriteByte_3]
    refine (p_copyCheck2 nx r b bs.length _ hbr).mono fun w h' e => ?_
    subst e
    have f1 : ¬ nx = r := by omega
    have f2 : ¬ nx + 1 = r := by omega
    have f3 : ¬ nx = b := by omega
    have f4 : ¬ nx + 1 = b := by omega
    have f5 : ¬ r = b := by omega
    simp -implicitDefEqProofs [f1, f2, f3, f4, f5, hbr, bldN, hroom, keepTy]
    refine ⟨⟨nx + 1 + 1, [(nx + 1, ⟨bytesEl (bs ++ [c]), 1, 1, true, some 5⟩), (r, bldN r (nx + 1) (bs ++ [c]).length)]⟩, ⟨rfl, fun x row hx => ?_⟩, .inr ⟨by simp, nx + 1, by omega, by simp, by simp; omega, rfl⟩⟩
    simp only [NHeap.get, getR] at hx ⊢
    split at hx
    · rename_i h1; rw [if_pos h1, List.take_of_length_le (by simp)]; rw [bytesEl_snoc] at hx; exact hx
    · rename_i h1
      split at hx
      · rename_i h2
        rw [if_neg h1, if_neg (by omega), if_pos h2]
        simpa [bldN] using hx
      · cases hx
theorem p_String {r : Nat} {bs : List UInt8} {h : NHeap} (hb : BSt r bs h) (hroom : bs.length ≤ 9223372036854775807) : NCall F n_strings_Builder_String [.ptr r 0 0] h fun w _ => w = sV ⟨bs.toArray⟩ := by
  obtain ⟨nx, rows⟩ := h
  rcases hb with ⟨rfl, hr, hrows⟩ | ⟨hne, b, hbr, hb, hr, hrows⟩
  · simp only at hr hrows
    subst hrows
    refine NCall.code (m := c_strings_Builder_String) (by kernel_rfl) rfl ?_
    simp -implicitDefEqProofs [c_strings_Builder_String, r_strings_Builder_String_0, r_strings_Builder_String_1, bldE, hr]
    rfl
  · simp only at hb hr hrows
    subst hrows
    have hl : 0 < bs.length := List.length_pos_iff.2 hne
    have ht : (bytesEl bs).take bs.length = bytesEl bs := List.take_of_length_le (by simp)
    refine NCall.code (m := c_strings_Builder_String) (by kernel_rfl) rfl ?_
    simp -implicitDefEqProofs [c_strings_Builder_String, r_strings_Builder_String_0, r_strings_Builder_String_1, bldN, hr, hbr, hb, hl, hne, (show (bs.length : Int) ≤ 9223372036854775807 by omega), ht, nstr_bytesEl]
/-! the bytes of numbers -/
def digs (x : Nat) : Nat → List UInt8
  | 0 => []
  | m + 1 => UInt8.ofNat (x / 256 ^ m) :: digs x m
theorem digs_snoc (x : Nat) : ∀ m, digs x (m + 1) = digs (x / 256) m ++ [UInt8.ofNat x]
  | 0 => by simp [digs]
  | m + 1 => by
    rw [digs, digs_snoc x m, digs, List.cons_append, Nat.div_div_eq_div_mul, Nat.pow_succ, Nat.mul_comm]
theorem be_digs (x : Nat) : be x = digs x (be x).length := by
  induction x using Nat.strongRecOn with
  | ind n ih =>
    by_cases h : n = 0
    · subst h; rw [be_zero]; rfl
    · rw [be_pos h, List.length_append, List.length_singleton, digs_snoc, ← ih (n / 256) (by omega)]
def wordB (x : Nat) : List UInt8 := UInt8.ofNat (be x).length :: be x
def putB (xs : List Int) : List UInt8 := xs.flatMap fun x => wordB x.toNat
theorem wrap_u8_nat (n : Nat) : IntKind.u8.wrap (n : Int) = ((UInt8.ofNat n).toNat : Int) := by
  rw [IntKind.wrap_u8, UInt8.toNat_ofNat']
  omega
theorem l_Put_0 (x : Nat) {v9 v10 v11 : NV} {Q : Out → NEnv → NHeap → Prop} : ∀ m bs h, BSt 0 bs h → m ≤ 8 → bs.length + m ≤ 140737488355328 → (∀ h', BSt 0 (bs ++ digs x m) h' → Q (.ex 2) [(4, .ptr 0 0 0), (6, iV (x : Int)), (8, iV (-1)), (9, v9), (10, v10), (11, v11), (26, bV false)] h') →
    NWp F (.loop l_word_Put_0) [(4, .ptr 0 0 0), (6, iV (x : Int)), (8, iV ((m : Int) - 1)), (9, v9), (10, v10), (11, v11)] h Q := by
  intro m
  induction m with
  | zero =>
    intro bs h hb hm hsz hq
    refine NWp.loopE l_word_Put_0.eq_1 ?_
    simp -implicitDefEqProofs [r_word_Put_0, r_word_Put_1, r_word_Put_2, r_word_Put_3, r_word_Put_4, r_word_Put_5, r_word_Put_6, r_word_Put_7, r_word_Put_8, r_word_Put_9, r_word_Put_10, r_word_Put_11, r_word_Put_12, r_word_Put_13, r_word_Put_14]
    exact hq h (by simpa [digs] using hb)
  | succ m ih =>
    intro bs h hb hm hsz hq
    have e1 : (((m + 1 : Nat) : Int) - 1) = (m : Int) := by omega
    rw [e1]
    have w1 : IntKind.i64.wrap (8 * (m : Int)) = ((8 * m : Nat) : Int) := by rw [wrap_id (by omega)]; omega
    have sh : binV .shr (.int .i64 (x : Int)) (.int .i64 ((8 * m : Nat) : Int)) = some (.int .i64 ((x / 256 ^ m : Nat) : Int)) := by
      rw [shr_nat (s := 8 * m) rfl (by show 8 * m ≤ 64; omega), Nat.pow_mul]
    have w2 := wrap_u8_nat (x / 256 ^ m)
    have w3 : IntKind.i64.wrap ((m : Int) - 1) = (m : Int) - 1 := wrap_id (by omega)
    refine NWp.loopE l_word_Put_0.eq_1 ?_
    simp -implicitDefEqProofs [r_word_Put_0, r_word_Put_1, r_word_Put_2, r_word_Put_3, r_word_Put_4, r_word_Put_5, r_word_Put_6, r_word_Put_7, r_word_Put_8, r_word_Put_9, r_word_Put_10, r_word_Put_11, r_word_Put_12, r_word_Put_13, r_word_Put_14]
    rw [w1]
    simp -implicitDefEqProofs [sh, -Int.natCast_mul, -Int.natCast_ediv, w2]
    have w4 : ((x / 256 ^ m : Nat) : Int) % 256 = ((UInt8.ofNat (x / 256 ^ m)).toNat : Int) := by rw [UInt8.toNat_ofNat']; omega
    rw [w4]
    refine (p_WriteByte hb _ (by omega)).mono fun w h' hb' => ?_
    simp -implicitDefEqProofs [w3]
    exact ih _ h' hb' (by omega) (by simp only [List.length_append, List.length_singleton]; omega) fun h' hb'' => hq h' (by simpa [digs] using hb'')
theorem be_len_le {n : Nat} (h : n < 9223372036854775808) : (be n).length ≤ 8 := by
  have : bitlen n ≤ 63 := bitlen_le.2 h
  rw [be_len]
  omega
theorem l_Put_1 (xs : List Int) {Q : Out → NEnv → NHeap → Prop} (hb2 : xs.length < 9223372036854775807) : ∀ k i bs h, i + k = xs.length → BSt 0 bs h → bs.length + 9 * k ≤ 140737488355328 →
    ((xs.drop i).all rateIs = true → ∀ h', BSt 0 (bs ++ putB (xs.drop i)) h' → Q (.ex 0) [(4, .ptr 0 0 0), (9, .fsl shI xs), (10, iV xs.length), (11, iV xs.length), (12, bV false)] h') →
    ((xs.drop i).all rateIs = false → ∀ h', Q .ret [(2, sV .empty), (3, iV 300)] h') →
    NWp F (.loop l_word_Put_1) [(4, .ptr 0 0 0), (9, .fsl shI xs), (10, iV xs.length), (11, iV i)] h Q := by
  intro k
  induction k with
  | zero =>
    intro i bs h hi hb hsz h1 h2
    obtain rfl : i = xs.length := by omega
    refine NWp.loopE l_word_Put_1.eq_1 ?_
    simp -implicitDefEqProofs [r_word_Put_0, r_word_Put_1, r_word_Put_2, r_word_Put_3, r_word_Put_4, r_word_Put_5, r_word_Put_6, r_word_Put_7, r_word_Put_8, r_word_Put_9, r_word_Put_10, r_word_Put_11, r_word_Put_12, r_word_Put_13, r_word_Put_14]
    exact h1 (by simp) h (by simpa [putB] using hb)
  | succ k ih =>
    intro i bs h hi hb hsz h1 h2
    have hlt : i < xs.length := by omega
    have hw := wrap_succ (n := i) (by omega)
    rw [List.drop_eq_getElem_cons hlt, List.all_cons] at h1 h2
    generalize hx : xs[i] = x at h1 h2
    refine NWp.loopE l_word_Put_1.eq_1 ?_
    simp -implicitDefEqProofs [r_word_Put_3, r_word_Put_4, r_word_Put_5, hlt, hx]
    refine (p_rateIs x).call1 (by simp) ?_
    cases a : rateIs x
    · simp -implicitDefEqProofs [r_word_Put_6, a]
      exact h2 (by rw [a]; rfl) _
    · have hr : 0 ≤ x ∧ x ≤ 4611686018427387904 := by simpa [rateIs] using a
      obtain ⟨n, rfl⟩ : ∃ n : Nat, x = (n : Int) := ⟨x.toNat, by omega⟩
      have hbl : (be n).length ≤ 8 := be_len_le (by omega)
      have w1 : ((be n).length : Int) % 256 = ((UInt8.ofNat (be n).length).toNat : Int) := by rw [UInt8.toNat_ofNat']; omega
      have w2 : IntKind.u8.wrap ((be n).length : Int) = ((UInt8.ofNat (be n).length).toNat : Int) := wrap_u8_nat _
      have w3 : IntKind.i64.wrap (((be n).length : Int) - 1) = ((be n).length : Int) - 1 := wrap_id (by omega)
      simp -implicitDefEqProofs [r_word_Put_7, r_word_Put_8, a]
      refine (p_size n (by omega)).call1 (by simp) ?_
      simp -implicitDefEqProofs []
      rw [w2]
      refine (p_WriteByte hb _ (by omega)).mono fun w h' hb' => ?_
      simp -implicitDefEqProofs [r_word_Put_9, w3]
      refine l_Put_0 n (be n).length (bs ++ [UInt8.ofNat (be n).length]) h' hb' hbl (by simp only [List.length_append, List.length_singleton]; omega) fun h2' hb2' => ?_
      rw [← be_digs] at hb2'
      simp -implicitDefEqProofs [r_word_Put_13, hw]
      rw [a, Bool.true_and] at h1 h2
      refine ih (i + 1) (bs ++ [UInt8.ofNat (be n).length] ++ be n) h2' (by omega) hb2' (by simp only [List.length_append, List.length_singleton]; omega) (fun h h' hb'' => h1 h h' ?_) h2
      have e : bs ++ putB ((n : Int) :: xs.drop (i + 1)) = bs ++ [UInt8.ofNat (be n).length] ++ be n ++ putB (xs.drop (i + 1)) := by
        simp [putB, wordB]
      rw [e]
      exact hb''
def putRes (xs : List Int) : NV := if xs.all rateIs then .tup [sV ⟨(putB xs).toArray⟩, iV 0] else .tup [sV .empty, iV 300]
theorem putRes_t {xs : List Int} (h : xs.all rateIs = true) : putRes xs = .tup [sV ⟨(putB xs).toArray⟩, iV 0] := if_pos h
theorem putRes_f {xs : List Int} (h : xs.all rateIs = false) : putRes xs = .tup [sV .empty, iV 300] := if_neg (by rw [h]; simp)
theorem p_Put (xs : List Int) (hsz : 9 * xs.length ≤ 140737488355328) : Pure F n_word_Put [.fsl shI xs] (putRes xs) := by
  have hl : xs.all rateIs = true → (putB xs).length ≤ 9 * xs.length := by
    clear hsz
    induction xs with
    | nil => intro; simp [putB]
    | cons x xs ih =>
      intro h
      rw [List.all_cons, Bool.and_eq_true] at h
      have hr : 0 ≤ x ∧ x ≤ 4611686018427387904 := by simpa [rateIs] using h.1
      have := be_len_le (n := x.toNat) (by omega)
      have := ih h.2
      have e : putB (x :: xs) = wordB x.toNat ++ putB xs := by simp [putB]
      rw [e, List.length_append]
      simp only [wordB, List.length_cons]
      omega
  refine PureP.start (m := c_word_Put) (by kernel_rfl) rfl ?_
  simp -implicitDefEqProofs [c_word_Put, r_word_Put_0, r_word_Put_1, r_word_Put_2]
  refine l_Put_1 xs (by omega) xs.length 0 [] _ (by omega) (.inl ⟨rfl, by simp, rfl⟩) (by simp; omega) (fun h h' hb => ?_) (fun h h' => ?_)
  · rw [List.drop_zero] at h hb
    have := hl h
    simp -implicitDefEqProofs [r_word_Put_14]
    refine (p_String hb (by simp; omega)).mono fun w h2 e => ?_
    subst e
    rw [putRes_t h]
    simp -implicitDefEqProofs []
  · rw [List.drop_zero] at h
    rw [putRes_f h]
    simp -implicitDefEqProofs []
end Go.Proofs.Ytnjmdkecpadehaa
