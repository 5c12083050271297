import Derived.Test.YtnjmdkecpadehaaU11
set_option linter.all false
set_option linter.unusedSimpArgs false
namespace Go.Proofs.Ytnjmdkecpadehaa
open M
theorem piecesOk_eq : ∀ (ps : List Piece) (a to : Int), piecesOk a ps to = (chOk a ps to && ps.all (fun p => pathsOk p.2.1))
  | [], a, to => by simp [piecesOk, chOk]
  | p :: r, a, to => by
    rw [piecesOk, chOk, List.all_cons, piecesOk_eq r, pathsOk]
    generalize spanMay p.1.1 p.1.2.1 = x1
    generalize decide (p.1.1 = a) = x2
    generalize decide (1 ≤ p.2.1.length ∧ p.2.1.length ≤ 16) = x3
    generalize p.2.1.all pathOk = x4
    generalize chOk p.1.2.1 r to = x5
    generalize r.all (fun p => pathsOk p.2.1) = x6
    cases x1 <;> cases x2 <;> cases x3 <;> cases x4 <;> cases x5 <;> cases x6 <;> rfl
theorem grant_eq (r : Reply) : grantMay22 r = grantMay r := by
  simp only [grantMay22, grantMay, chained, piecesMay, piecesOk_eq, rateIs]
  generalize spanMay r.1.1 r.1.2.1 = x1
  generalize chOk r.1.1 (rPieces r) r.1.2.1 = x2
  generalize (rPieces r).all (fun p => pathsOk p.2.1) = x3
  generalize rId r = i
  generalize rRate r = q
  generalize (rPieces r).length = n
  apply Bool.eq_iff_iff.2
  cases x1 <;> cases x2 <;> cases x3 <;> simp
  omega
theorem cut_eq (r : Reply) : cutMay r.2.1 = (decide (0 ≤ r.2.1.1 ∧ r.2.1.1 < 4096) && vertsMay (rVerts r)) := by
  simp only [cutMay, vertsMay, rVerts]
  generalize vertsOk (-1) r.2.1.2.1 = x1
  generalize r.2.1.2.1.length = n
  generalize r.2.1.1 = a
  apply Bool.eq_iff_iff.2
  cases x1 <;> simp
  omega
theorem plain_kind (r : Reply) : rKind (plainR r) = rKind r := by
  unfold plainR
  repeat' split
  all_goals rfl
theorem plain_verts (r : Reply) : rVerts (plainR r) = rVerts r ∨ rVerts (plainR r) = [] := by
  unfold plainR
  repeat' split
  all_goals first | exact .inr rfl | exact .inl rfl
theorem plain_pieces (r : Reply) : rPieces (plainR r) = rPieces r ∨ rPieces (plainR r) = [] := by
  unfold plainR
  repeat' split
  all_goals first | exact .inr rfl | exact .inl rfl
theorem isPlain_eq (r : Reply) : isPlain r = decide (plainR r = r) := by
  unfold isPlain
  apply Bool.eq_iff_iff.2
  rw [decide_eq_true_eq, decide_eq_true_eq]
  constructor
  · rintro ⟨h1, h2, h3, h4, h5, h6, h7, h8, h9⟩
    refine (reply_iff _ _).2 ⟨⟨h1, h2⟩, h3, ?_, plain_kind r, h5, h6, h7, h8, ?_⟩
    · rcases plain_verts r with h | h
      · exact h
      · have h4 : (rVerts (plainR r)).length = (rVerts r).length := h4
        rw [h] at h4 ⊢
        exact (List.eq_nil_of_length_eq_zero h4.symm).symm
    · rcases plain_pieces r with h | h
      · exact h
      · rw [h] at h9 ⊢
        exact (List.eq_nil_of_length_eq_zero h9.symm).symm
  · intro h
    rw [h]
    exact ⟨rfl, rfl, rfl, rfl, rfl, rfl, rfl, rfl, rfl⟩
theorem may_eq (r : Reply) : replyMay22 r = mayR r := by
  unfold replyMay22 mayR
  rw [isPlain_eq, Bool.and_comm]
  congr 1
  unfold is22
  rw [grant_eq, cut_eq]
  by_cases h1 : rKind r = 1
  · rw [if_pos h1, if_pos h1]
  rw [if_neg h1, if_neg h1]
  by_cases h2 : rKind r = 2
  · rw [if_pos h2, if_pos h2]
  rw [if_neg h2, if_neg h2]
  by_cases h3 : rKind r = 3
  · rw [if_pos h3, if_pos h3]
  rw [if_neg h3, if_neg h3]
  by_cases h4 : rKind r = 4
  · rw [if_pos h4, if_neg (by omega), decide_eq_true h4]
  rw [if_neg h4, decide_eq_false h4]
theorem nstr_one (d : UInt8) : nstr [[.v (.int .u8 (d.toNat : Int))]] = some [d] := nstr_bytesEl [d]
theorem adds (a b : List UInt8) (h : a.length + b.length ≤ 9223372036854775807) : binV .add (.string ⟨a.toArray⟩) (.string ⟨b.toArray⟩) = some (.string ⟨(a ++ b).toArray⟩) := by
  have e : (⟨a.toArray⟩ : ByteArray) ++ ⟨b.toArray⟩ = ⟨(a ++ b).toArray⟩ := by
    rw [ByteArray.ext_iff, ByteArray.data_append, List.append_toArray]
  simp only [binV, strOp]
  rw [if_pos (by simpa [ByteArray.size] using h), e]
theorem l_rPut_0 (xs : List Int) (i : Nat) (out : ByteArray) {Q : Out → NEnv → NHeap → Prop} : ∀ x acc nx, x < 9223372036854775808 → acc.length + (be x).length ≤ 9223372036854775807 → (∀ nx', Q (.ex 2) [(0, .fsl shI xs), (4, sV out), (5, iV i), (6, sV ⟨(be x ++ acc).toArray⟩), (7, iV 0), (25, bV false)] ⟨nx', []⟩) →
    NWp F (.loop l_tollbarref1_Put_0) [(0, .fsl shI xs), (4, sV out), (5, iV i), (6, sV ⟨acc.toArray⟩), (7, iV (x : Int))] ⟨nx, []⟩ Q := by
  intro x
  induction x using Nat.strongRecOn with
  | ind x ih =>
    intro acc nx hx hsz h1
    refine NWp.loopE l_tollbarref1_Put_0.eq_1 ?_
    by_cases h : x = 0
    · subst h
      simp -implicitDefEqProofs [r_tollbarref1_Put_0, r_tollbarref1_Put_1, r_tollbarref1_Put_2, r_tollbarref1_Put_3, r_tollbarref1_Put_4, r_tollbarref1_Put_5, r_tollbarref1_Put_6, r_tollbarref1_Put_7, r_tollbarref1_Put_8, r_tollbarref1_Put_9, r_tollbarref1_Put_10, r_tollbarref1_Put_11, r_tollbarref1_Put_12, r_tollbarref1_Put_13]
      have := h1 nx
      rw [be_zero] at this
      exact this
    · have e2 : IntKind.i64.wrap ((x : Int) / 256) = ((x / 256 : Nat) : Int) := by
        rw [wrap_id (by omega)]; rfl
      have w1 : IntKind.u8.wrap ((x : Int).tmod 256) = ((UInt8.ofNat x).toNat : Int) := by
        rw [show (x : Int).tmod 256 = ((x % 256 : Nat) : Int) from rfl, wrap_u8_nat, UInt8.toNat_ofNat', UInt8.toNat_ofNat', Nat.mod_mod]
      rw [be_pos h] at h1 hsz
      generalize UInt8.ofNat x = d at w1 h1 hsz
      rw [List.length_append, List.length_singleton] at hsz
      have ha := adds [d] acc (by rw [List.length_singleton]; omega)
      simp -implicitDefEqProofs [r_tollbarref1_Put_0, r_tollbarref1_Put_1, r_tollbarref1_Put_2, r_tollbarref1_Put_3, r_tollbarref1_Put_4, r_tollbarref1_Put_5, r_tollbarref1_Put_6, r_tollbarref1_Put_7, r_tollbarref1_Put_8, r_tollbarref1_Put_9, r_tollbarref1_Put_10, r_tollbarref1_Put_11, r_tollbarref1_Put_12, r_tollbarref1_Put_13, h, (show 0 < x by omega), w1, nstr_one, ha]
      rw [e2]
      refine NWp.pop rfl ?_
      refine ih (x / 256) (by omega) (d :: acc) _ (by omega) (by rw [List.length_cons]; omega) fun nx' => ?_
      have := h1 nx'
      rw [List.append_assoc] at this
      exact this
theorem l_rPut_1 (xs : List Int) (hsz : 9 * xs.length ≤ 140737488355328) {Q : Out → NEnv → NHeap → Prop} : ∀ k i bs nx, i + k = xs.length → bs.length + 9 * k ≤ 140737488355328 →
    ((xs.drop i).all rateIs = true → ∀ nx', Q (.ex 0) [(0, .fsl shI xs), (4, sV ⟨(bs ++ putB (xs.drop i)).toArray⟩), (5, iV xs.length), (11, bV false)] ⟨nx', []⟩) →
    ((xs.drop i).all rateIs = false → ∀ h', Q .ret [(2, sV .empty), (3, iV 300)] h') →
    NWp F (.loop l_tollbarref1_Put_1) [(0, .fsl shI xs), (4, sV ⟨bs.toArray⟩), (5, iV i)] ⟨nx, []⟩ Q := by
  intro k
  induction k with
  | zero =>
    intro i bs nx hi hsz h1 h2
    obtain rfl : i = xs.length := by omega
    refine NWp.loopE l_tollbarref1_Put_1.eq_1 ?_
    simp -implicitDefEqProofs [r_tollbarref1_Put_0, r_tollbarref1_Put_1, r_tollbarref1_Put_2, r_tollbarref1_Put_3, r_tollbarref1_Put_4, r_tollbarref1_Put_5, r_tollbarref1_Put_6, r_tollbarref1_Put_7, r_tollbarref1_Put_8, r_tollbarref1_Put_9, r_tollbarref1_Put_10, r_tollbarref1_Put_11, r_tollbarref1_Put_12, r_tollbarref1_Put_13]
    have := h1 (by simp) nx
    rw [List.drop_length, show putB [] = [] from rfl, List.append_nil] at this
    exact this
  | succ k ih =>
    intro i bs nx hi hsz h1 h2
    have hlt : i < xs.length := by omega
    have hw := wrap_succ (n := i) (by omega)
    rw [List.drop_eq_getElem_cons hlt, List.all_cons] at h1 h2
    generalize hx : xs[i] = x at h1 h2
    refine NWp.loopE l_tollbarref1_Put_1.eq_1 ?_
    simp -implicitDefEqProofs [r_tollbarref1_Put_0, r_tollbarref1_Put_1, r_tollbarref1_Put_2, r_tollbarref1_Put_3, r_tollbarref1_Put_4, r_tollbarref1_Put_5, r_tollbarref1_Put_6, r_tollbarref1_Put_7, r_tollbarref1_Put_8, r_tollbarref1_Put_9, r_tollbarref1_Put_10, r_tollbarref1_Put_11, r_tollbarref1_Put_12, r_tollbarref1_Put_13, hlt, hx]
    refine (p_Rate x).call1 (by simp) ?_
    cases a : rateIs x
    · simp -implicitDefEqProofs [r_tollbarref1_Put_0, r_tollbarref1_Put_1, r_tollbarref1_Put_2, r_tollbarref1_Put_3, r_tollbarref1_Put_4, r_tollbarref1_Put_5, r_tollbarref1_Put_6, r_tollbarref1_Put_7, r_tollbarref1_Put_8, r_tollbarref1_Put_9, r_tollbarref1_Put_10, r_tollbarref1_Put_11, r_tollbarref1_Put_12, r_tollbarref1_Put_13, a]
      exact h2 (by rw [a]; rfl) _
    · have hr : 0 ≤ x ∧ x ≤ 4611686018427387904 := by simpa [rateIs] using a
      obtain ⟨n, rfl⟩ : ∃ n : Nat, x = (n : Int) := ⟨x.toNat, by omega⟩
      have hbl : (be n).length ≤ 8 := be_len_le (by omega)
      have w2 : IntKind.u8.wrap ((be n).length : Int) = ((UInt8.ofNat (be n).length).toNat : Int) := wrap_u8_nat _
      have e : bs ++ putB ((n : Int) :: xs.drop (i + 1)) = bs ++ [UInt8.ofNat (be n).length] ++ be n ++ putB (xs.drop (i + 1)) := by
        simp [putB, wordB]
      rw [a, Bool.true_and, e] at h1
      rw [a, Bool.true_and] at h2
      generalize UInt8.ofNat (be n).length = d at w2 h1
      have ha := adds bs [d] (by rw [List.length_singleton]; omega)
      have hb := adds (bs ++ [d]) (be n) (by rw [List.length_append, List.length_singleton]; omega)
      simp -implicitDefEqProofs [r_tollbarref1_Put_0, r_tollbarref1_Put_1, r_tollbarref1_Put_2, r_tollbarref1_Put_3, r_tollbarref1_Put_4, r_tollbarref1_Put_5, r_tollbarref1_Put_6, r_tollbarref1_Put_7, r_tollbarref1_Put_8, r_tollbarref1_Put_9, r_tollbarref1_Put_10, r_tollbarref1_Put_11, r_tollbarref1_Put_12, r_tollbarref1_Put_13, a, hlt, hx]
      refine l_rPut_0 xs i ⟨bs.toArray⟩ n [] nx (by omega) (by simp; omega) fun nx' => ?_
      rw [List.append_nil]
      simp -implicitDefEqProofs [r_tollbarref1_Put_0, r_tollbarref1_Put_1, r_tollbarref1_Put_2, r_tollbarref1_Put_3, r_tollbarref1_Put_4, r_tollbarref1_Put_5, r_tollbarref1_Put_6, r_tollbarref1_Put_7, r_tollbarref1_Put_8, r_tollbarref1_Put_9, r_tollbarref1_Put_10, r_tollbarref1_Put_11, r_tollbarref1_Put_12, r_tollbarref1_Put_13, w2, nstr_one, ha, hb, hw, ByteArray.size]
      refine NWp.pop rfl ?_
      rw [show bs ++ d :: be n = bs ++ [d] ++ be n by simp]
      exact ih (i + 1) (bs ++ [d] ++ be n) _ (by omega) (by simp only [List.length_append, List.length_singleton]; omega) h1 h2
theorem putB_len : ∀ {xs : List Int}, xs.all rateIs = true → (putB xs).length ≤ 9 * xs.length
  | [], _ => by simp [putB]
  | x :: xs, h => by
    rw [List.all_cons, Bool.and_eq_true] at h
    have hr : 0 ≤ x ∧ x ≤ 4611686018427387904 := by simpa [rateIs] using h.1
    have := be_len_le (n := x.toNat) (by omega)
    have := putB_len h.2
    have e : putB (x :: xs) = wordB x.toNat ++ putB xs := by simp [putB]
    rw [e, List.length_append]
    simp only [wordB, List.length_cons]
    omega
theorem p_rPut (xs : List Int) (hsz : 9 * xs.length ≤ 140737488355328) : Pure F n_tollbarref1_Put [.fsl shI xs] (putRes xs) := by
  refine PureP.start (m := c_tollbarref1_Put) (by kernel_rfl) rfl ?_
  simp -implicitDefEqProofs [c_tollbarref1_Put, r_tollbarref1_Put_0, r_tollbarref1_Put_1, r_tollbarref1_Put_2, r_tollbarref1_Put_3, r_tollbarref1_Put_4, r_tollbarref1_Put_5, r_tollbarref1_Put_6, r_tollbarref1_Put_7, r_tollbarref1_Put_8, r_tollbarref1_Put_9, r_tollbarref1_Put_10, r_tollbarref1_Put_11, r_tollbarref1_Put_12, r_tollbarref1_Put_13]
  refine l_rPut_1 xs hsz xs.length 0 [] _ (by omega) (by simp; omega) (fun h nx' => ?_) (fun h h' => ?_)
  · rw [List.drop_zero] at h
    rw [putRes_t h]
    simp -implicitDefEqProofs [c_tollbarref1_Put, r_tollbarref1_Put_0, r_tollbarref1_Put_1, r_tollbarref1_Put_2, r_tollbarref1_Put_3, r_tollbarref1_Put_4, r_tollbarref1_Put_5, r_tollbarref1_Put_6, r_tollbarref1_Put_7, r_tollbarref1_Put_8, r_tollbarref1_Put_9, r_tollbarref1_Put_10, r_tollbarref1_Put_11, r_tollbarref1_Put_12, r_tollbarref1_Put_13]
  · rw [List.drop_zero] at h
    rw [putRes_f h]
    simp -implicitDefEqProofs [c_tollbarref1_Put, r_tollbarref1_Put_0, r_tollbarref1_Put_1, r_tollbarref1_Put_2, r_tollbarref1_Put_3, r_tollbarref1_Put_4, r_tollbarref1_Put_5, r_tollbarref1_Put_6, r_tollbarref1_Put_7, r_tollbarref1_Put_8, r_tollbarref1_Put_9, r_tollbarref1_Put_10, r_tollbarref1_Put_11, r_tollbarref1_Put_12, r_tollbarref1_Put_13]
end Go.Proofs.Ytnjmdkecpadehaa
