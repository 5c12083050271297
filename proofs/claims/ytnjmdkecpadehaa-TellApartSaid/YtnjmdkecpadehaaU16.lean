/- The plain law of TellApart: the bytes of replies that may be tell them apart; and M's run of TellApart. Conditions: none. -/
import Derived.Test.YtnjmdkecpadehaaU15
set_option linter.all false
set_option linter.unusedSimpArgs false
namespace Go.Proofs.Ytnjmdkecpadehaa
open M
theorem pathNums_del (x y : Path) (r s : List Int) (h : pathNums x ++ r = pathNums y ++ s) : x = y ∧ r = s := by
  simp only [pathNums, List.cons_append, List.cons.injEq] at h
  obtain ⟨h1, h2, h3⟩ := h
  obtain ⟨h4, h5⟩ := List.append_inj h3 (by omega)
  obtain ⟨a, b, ⟨⟩⟩ := x
  obtain ⟨c, d, ⟨⟩⟩ := y
  simp only at h1 h4
  subst h1 h4
  exact ⟨rfl, h5⟩
theorem flat_del {α : Type} {f : α → List Int} (hf : ∀ x y r s, f x ++ r = f y ++ s → x = y ∧ r = s) : ∀ (l m : List α) (r s : List Int), l.length = m.length → l.flatMap f ++ r = m.flatMap f ++ s → l = m ∧ r = s
  | [], [], r, s, _, h => ⟨rfl, by simpa using h⟩
  | x :: l, y :: m, r, s, hl, h => by
    rw [List.flatMap_cons, List.flatMap_cons, List.append_assoc, List.append_assoc] at h
    obtain ⟨h1, h2⟩ := hf _ _ _ _ h
    obtain ⟨h3, h4⟩ := flat_del hf l m r s (by simpa using hl) h2
    exact ⟨by rw [h1, h3], h4⟩
  | [], _ :: _, _, _, hl, _ => by simp at hl
  | _ :: _, [], _, _, hl, _ => by simp at hl
theorem pieceNums_del (x y : Piece) (r s : List Int) (h : pieceNums x ++ r = pieceNums y ++ s) : x = y ∧ r = s := by
  simp only [pieceNums, List.cons_append, List.cons.injEq] at h
  obtain ⟨h1, h2, h3, h4⟩ := h
  obtain ⟨h5, h6⟩ := flat_del pathNums_del _ _ _ _ (by omega) h4
  obtain ⟨⟨a1, a2, ⟨⟩⟩, a3, ⟨⟩⟩ := x
  obtain ⟨⟨b1, b2, ⟨⟩⟩, b3, ⟨⟩⟩ := y
  simp only at h1 h2 h5
  subst h1 h2 h5
  exact ⟨rfl, h6⟩
theorem plain_of {r : Reply} (h : mayR r = true) : plainR r = r := by
  unfold mayR at h
  rw [Bool.and_eq_true, isPlain_eq, decide_eq_true_eq] at h
  exact h.1
theorem nums_head (r : Reply) : (numsR r).head? = some (rKind r) := by
  unfold numsR
  repeat' split
  all_goals rfl
theorem nums_inj {a b : Reply} (ha : mayR a = true) (hb : mayR b = true) (h : numsR a = numsR b) : a = b := by
  rw [← plain_of ha, ← plain_of hb]
  have hk : rKind a = rKind b := by
    have := nums_head a
    rw [h, nums_head b] at this
    exact (Option.some.inj this).symm
  by_cases h1 : rKind b = 1
  · simp only [numsR, hk, h1, if_true] at h
    simp only [plainR, hk, h1, if_true]
    simp only [List.cons.injEq, and_true, true_and] at h
    rw [h]
  by_cases h2 : rKind b = 2
  · simp only [numsR, hk, h1, h2, if_true, if_false, grantNums, show ¬ (2 : Int) = 1 by decide] at h
    simp only [plainR, hk, h1, h2, if_true, if_false, show ¬ (2 : Int) = 1 by decide]
    have e1 := (List.cons.inj (List.cons.inj h).2).1
    have e2 := (List.cons.inj (List.cons.inj (List.cons.inj h).2).2).1
    have e3 := (List.cons.inj (List.cons.inj (List.cons.inj (List.cons.inj h).2).2).2).1
    have e4 := (List.cons.inj (List.cons.inj (List.cons.inj (List.cons.inj (List.cons.inj h).2).2).2).2).1
    have e5 := (List.cons.inj (List.cons.inj (List.cons.inj (List.cons.inj (List.cons.inj (List.cons.inj h).2).2).2).2).2).1
    have e6 := (List.cons.inj (List.cons.inj (List.cons.inj (List.cons.inj (List.cons.inj (List.cons.inj h).2).2).2).2).2).2
    have e7 := (flat_del pieceNums_del (rPieces a) (rPieces b) [] [] (by omega) (by simpa using e6)).1
    have e8 : a.1 = b.1 := Prod.ext e3 (Prod.ext e4 rfl)
    rw [e1, e2, e7, e8]
  by_cases h3 : rKind b = 3
  · simp only [numsR, hk, h1, h2, h3, if_true, if_false, show ¬ (3 : Int) = 1 by decide, show ¬ (3 : Int) = 2 by decide] at h
    simp only [plainR, hk, h1, h2, h3, if_true, if_false, show ¬ (3 : Int) = 1 by decide, show ¬ (3 : Int) = 2 by decide]
    have e1 := (List.cons.inj (List.cons.inj h).2).1
    have e3 := (List.cons.inj (List.cons.inj (List.cons.inj h).2).2).2
    have e4 : a.2.1 = b.2.1 := Prod.ext e1 (Prod.ext e3 rfl)
    rw [e4]
  by_cases h5 : rKind b = 5
  · simp only [numsR, hk, h1, h2, h3, h5, if_true, if_false, show ¬ (5 : Int) = 1 by decide, show ¬ (5 : Int) = 2 by decide, show ¬ (5 : Int) = 3 by decide] at h
    simp only [plainR, hk, h1, h2, h3, h5, if_true, if_false, show ¬ (5 : Int) = 1 by decide, show ¬ (5 : Int) = 2 by decide, show ¬ (5 : Int) = 3 by decide]
    have e1 := (List.cons.inj (List.cons.inj h).2).1
    rw [e1]
  · simp only [plainR, hk, h1, h2, h3, h5, if_false]
theorem be_inj : ∀ (n m : Nat), be n = be m → n = m := by
  intro n
  induction n using Nat.strongRecOn with
  | ind n ih =>
    intro m h
    by_cases hn : n = 0
    · subst hn
      by_cases hm : m = 0
      · exact hm.symm
      · rw [be_zero, be_pos hm] at h
        simp at h
    · by_cases hm : m = 0
      · subst hm
        rw [be_zero, be_pos hn] at h
        simp at h
      · rw [be_pos hn, be_pos hm] at h
        obtain ⟨h1, h2⟩ := List.append_inj' h rfl
        have h3 := ih (n / 256) (by omega) _ h1
        have h4 := congrArg UInt8.toNat (List.cons.inj h2).1
        rw [UInt8.toNat_ofNat', UInt8.toNat_ofNat'] at h4
        omega
theorem wordB_del {n m : Nat} (hn : (be n).length ≤ 8) (hm : (be m).length ≤ 8) {r s : List UInt8} (h : wordB n ++ r = wordB m ++ s) : n = m ∧ r = s := by
  simp only [wordB, List.cons_append, List.cons.injEq] at h
  obtain ⟨h1, h2⟩ := h
  have h3 := congrArg UInt8.toNat h1
  rw [UInt8.toNat_ofNat', UInt8.toNat_ofNat'] at h3
  obtain ⟨h4, h5⟩ := List.append_inj h2 (by omega)
  exact ⟨be_inj _ _ h4, h5⟩
theorem rate_len {x : Int} (h : rateIs x = true) : 0 ≤ x ∧ (be x.toNat).length ≤ 8 := by
  have hr : 0 ≤ x ∧ x ≤ 4611686018427387904 := by simpa [rateIs] using h
  exact ⟨hr.1, be_len_le (by omega)⟩
theorem putB_cons (x : Int) (xs : List Int) : putB (x :: xs) = wordB x.toNat ++ putB xs := by simp [putB]
theorem putB_inj : ∀ {xs ys : List Int}, xs.all rateIs = true → ys.all rateIs = true → putB xs = putB ys → xs = ys
  | [], [], _, _, _ => rfl
  | [], y :: ys, _, _, h => by rw [putB_cons, show putB [] = [] from rfl] at h; simp [wordB] at h
  | x :: xs, [], _, _, h => by rw [putB_cons, show putB [] = [] from rfl] at h; simp [wordB] at h
  | x :: xs, y :: ys, hx, hy, h => by
    rw [List.all_cons, Bool.and_eq_true] at hx hy
    rw [putB_cons, putB_cons] at h
    obtain ⟨a1, a2⟩ := rate_len hx.1
    obtain ⟨b1, b2⟩ := rate_len hy.1
    obtain ⟨h1, h2⟩ := wordB_del a2 b2 h
    have h3 := putB_inj hx.2 hy.2 h2
    rw [h3, show x = y by omega]
theorem apart_eq {a b : Reply} (ha : mayR a = true) (hb : mayR b = true) : decide (putB (numsR a) = putB (numsR b)) = decide (a = b) := by
  apply Bool.eq_iff_iff.2
  rw [decide_eq_true_eq, decide_eq_true_eq]
  exact ⟨fun h => nums_inj ha hb (putB_inj (may_nums ha).1 (may_nums hb).1 h), fun h => by rw [h]⟩
theorem seql (x y : List UInt8) : binV .eql (.string ⟨x.toArray⟩) (.string ⟨y.toArray⟩) = some (.bool (decide (x = y))) := by
  simp only [binV, strOp, ByteArray.toList_eq]
  congr 2
  apply Bool.eq_iff_iff.2
  rw [beq_iff_eq, decide_eq_true_eq]
theorem p_TellApart (a b : Reply) (ha : fitsR a) (hb : fitsR b) : Pure F n_tollbarlaw23_TellApart [.agg (cellsN shReply a), .agg (cellsN shReply b)] (bV true) := by
  refine PureP.start (m := c_tollbarlaw23_TellApart) (by kernel_rfl) rfl ?_
  have hwa := p_Write a ha.1
  have hwb := p_Write b hb.1
  simp -implicitDefEqProofs [c_tollbarlaw23_TellApart, r_tollbarlaw23_TellApart_0, r_tollbarlaw23_TellApart_1, r_tollbarlaw23_TellApart_2, r_tollbarlaw23_TellApart_3, r_tollbarlaw23_TellApart_4, r_tollbarlaw23_TellApart_5]
  cases ma : mayR a
  · rw [writeRes_f ma] at hwa
    refine hwa.call1 (by simp) ?_
    simp -implicitDefEqProofs [c_tollbarlaw23_TellApart, r_tollbarlaw23_TellApart_0, r_tollbarlaw23_TellApart_1, r_tollbarlaw23_TellApart_2, r_tollbarlaw23_TellApart_3, r_tollbarlaw23_TellApart_4, r_tollbarlaw23_TellApart_5]
    rw [writeRes_eq] at hwb
    refine hwb.call1 (by simp) ?_
    simp -implicitDefEqProofs [c_tollbarlaw23_TellApart, r_tollbarlaw23_TellApart_0, r_tollbarlaw23_TellApart_1, r_tollbarlaw23_TellApart_2, r_tollbarlaw23_TellApart_3, r_tollbarlaw23_TellApart_4, r_tollbarlaw23_TellApart_5]
    refine (p_Num 2300).call1 (by simp) ?_
    simp -implicitDefEqProofs [c_tollbarlaw23_TellApart, r_tollbarlaw23_TellApart_0, r_tollbarlaw23_TellApart_1, r_tollbarlaw23_TellApart_2, r_tollbarlaw23_TellApart_3, r_tollbarlaw23_TellApart_4, r_tollbarlaw23_TellApart_5]
  rw [writeRes_t ma] at hwa
  refine hwa.call1 (by simp) ?_
  simp -implicitDefEqProofs [c_tollbarlaw23_TellApart, r_tollbarlaw23_TellApart_0, r_tollbarlaw23_TellApart_1, r_tollbarlaw23_TellApart_2, r_tollbarlaw23_TellApart_3, r_tollbarlaw23_TellApart_4, r_tollbarlaw23_TellApart_5]
  cases mb : mayR b
  · rw [writeRes_f mb] at hwb
    refine hwb.call1 (by simp) ?_
    simp -implicitDefEqProofs [c_tollbarlaw23_TellApart, r_tollbarlaw23_TellApart_0, r_tollbarlaw23_TellApart_1, r_tollbarlaw23_TellApart_2, r_tollbarlaw23_TellApart_3, r_tollbarlaw23_TellApart_4, r_tollbarlaw23_TellApart_5]
    refine (p_Num 0).call1 (by simp) ?_
    simp -implicitDefEqProofs [c_tollbarlaw23_TellApart, r_tollbarlaw23_TellApart_0, r_tollbarlaw23_TellApart_1, r_tollbarlaw23_TellApart_2, r_tollbarlaw23_TellApart_3, r_tollbarlaw23_TellApart_4, r_tollbarlaw23_TellApart_5]
    refine (p_Num 2300).call1 (by simp) ?_
    simp -implicitDefEqProofs [c_tollbarlaw23_TellApart, r_tollbarlaw23_TellApart_0, r_tollbarlaw23_TellApart_1, r_tollbarlaw23_TellApart_2, r_tollbarlaw23_TellApart_3, r_tollbarlaw23_TellApart_4, r_tollbarlaw23_TellApart_5]
  rw [writeRes_t mb] at hwb
  refine hwb.call1 (by simp) ?_
  simp -implicitDefEqProofs [c_tollbarlaw23_TellApart, r_tollbarlaw23_TellApart_0, r_tollbarlaw23_TellApart_1, r_tollbarlaw23_TellApart_2, r_tollbarlaw23_TellApart_3, r_tollbarlaw23_TellApart_4, r_tollbarlaw23_TellApart_5]
  refine (p_Num 0).call1 (by simp) ?_
  simp -implicitDefEqProofs [c_tollbarlaw23_TellApart, r_tollbarlaw23_TellApart_0, r_tollbarlaw23_TellApart_1, r_tollbarlaw23_TellApart_2, r_tollbarlaw23_TellApart_3, r_tollbarlaw23_TellApart_4, r_tollbarlaw23_TellApart_5]
  refine (p_Num 0).call1 (by simp) ?_
  simp -implicitDefEqProofs [c_tollbarlaw23_TellApart, r_tollbarlaw23_TellApart_0, r_tollbarlaw23_TellApart_1, r_tollbarlaw23_TellApart_2, r_tollbarlaw23_TellApart_3, r_tollbarlaw23_TellApart_4, r_tollbarlaw23_TellApart_5]
  refine p_awake.call1 (by simp) ?_
  have e1 := seql (putB (numsR a)) (putB (numsR b))
  rw [apart_eq ma mb] at e1
  simp -implicitDefEqProofs [c_tollbarlaw23_TellApart, r_tollbarlaw23_TellApart_0, r_tollbarlaw23_TellApart_1, r_tollbarlaw23_TellApart_2, r_tollbarlaw23_TellApart_3, r_tollbarlaw23_TellApart_4, r_tollbarlaw23_TellApart_5, e1]
  refine (p_lSameReply a b ha).call1 (by simp) ?_
  simp -implicitDefEqProofs [c_tollbarlaw23_TellApart, r_tollbarlaw23_TellApart_0, r_tollbarlaw23_TellApart_1, r_tollbarlaw23_TellApart_2, r_tollbarlaw23_TellApart_3, r_tollbarlaw23_TellApart_4, r_tollbarlaw23_TellApart_5]
end Go.Proofs.Ytnjmdkecpadehaa
