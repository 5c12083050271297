import Derived.Test.YtnjmdkecpadehaaU6
set_option linter.all false
set_option linter.unusedSimpArgs false
namespace Go.Proofs.Ytnjmdkecpadehaa
open M
theorem vertsOk_spec : ∀ {vs : List Int} {prev : Int}, -1 ≤ prev → prev < 8 → vertsOk prev vs = true → (∀ v ∈ vs, 0 ≤ v ∧ v < 8) ∧ (vs.length : Int) ≤ 7 - prev
  | [], prev, h0, h1, _ => ⟨fun v h => (by cases h), by simp; omega⟩
  | v :: r, prev, h0, h1, h => by
    rw [vertsOk, Bool.and_eq_true, decide_eq_true_eq] at h
    obtain ⟨⟨a1, a2, a3⟩, h⟩ := h
    obtain ⟨b1, b2⟩ := vertsOk_spec (by omega) a2 h
    refine ⟨fun x hx => ?_, by rw [List.length_cons]; omega⟩
    rcases List.mem_cons.1 hx with rfl | hx
    · exact ⟨a1, a2⟩
    · exact b1 x hx
theorem piecesOk_mem : ∀ {ps : List Piece} {a to : Int}, piecesOk a ps to = true → ∀ p ∈ ps, spanMay p.1.1 p.1.2.1 = true ∧ p.2.1.length ≤ 16 ∧ 1 ≤ p.2.1.length ∧ p.2.1.all pathOk = true
  | p :: r, a, to, h, x, hx => by
    rw [piecesOk] at h
    simp only [Bool.and_eq_true, decide_eq_true_eq] at h
    obtain ⟨⟨⟨⟨h1, h2⟩, h3, h4⟩, h5⟩, h6⟩ := h
    rcases List.mem_cons.1 hx with rfl | hx
    · exact ⟨h1, h4, h3, h5⟩
    · exact piecesOk_mem h6 x hx
  | [], _, _, _, x, hx => by cases hx
def numsR (r : Reply) : List Int :=
  if rKind r = 1 then [rKind r, rCode r]
  else if rKind r = 2 then rKind r :: grantNums r
  else if rKind r = 3 then rKind r :: r.2.1.1 :: ((rVerts r).length : Int) :: rVerts r
  else if rKind r = 5 then [rKind r, rValue r]
  else [rKind r]
theorem rateIs_of {x : Int} (h : 0 ≤ x ∧ x ≤ 4611686018427387904) : rateIs x = true := by simp [rateIs, h]
theorem pathNums_all {q : Path} (h : pathOk q = true) : (pathNums q).all rateIs = true ∧ (pathNums q).length ≤ 18 := by
  simp only [pathOk, Bool.and_eq_true, decide_eq_true_eq] at h
  obtain ⟨⟨h1, h2, h3, h4⟩, h5⟩ := h
  refine ⟨?_, by simp only [pathNums, List.length_cons]; omega⟩
  simp only [pathNums, List.all_cons, Bool.and_eq_true]
  refine ⟨rateIs_of ⟨by omega, h2⟩, rateIs_of (by omega), ?_⟩
  rw [List.all_eq_true] at h5 ⊢
  intro x hx
  have := h5 x hx
  simp only [vertOk, decide_eq_true_eq] at this
  exact rateIs_of (by omega)
theorem flat_all {α : Type} {f : α → List Int} {n : Nat} : ∀ {l : List α}, (∀ x ∈ l, (f x).all rateIs = true ∧ (f x).length ≤ n) → (l.flatMap f).all rateIs = true ∧ (l.flatMap f).length ≤ l.length * n
  | [], _ => ⟨rfl, by simp⟩
  | a :: l, h => by
    obtain ⟨h1, h2⟩ := h a (List.mem_cons_self ..)
    obtain ⟨h3, h4⟩ := flat_all fun x hx => h x (List.mem_cons_of_mem _ hx)
    rw [List.flatMap_cons, List.all_append, List.length_append, List.length_cons, Nat.add_mul, h1, h3]
    exact ⟨rfl, by omega⟩
theorem pieceNums_all {p : Piece} (h0 : spanMay p.1.1 p.1.2.1 = true) (h1 : p.2.1.length ≤ 16) (h2 : p.2.1.all pathOk = true) : (pieceNums p).all rateIs = true ∧ (pieceNums p).length ≤ 300 := by
  simp only [spanMay, decide_eq_true_eq] at h0
  rw [List.all_eq_true] at h2
  obtain ⟨a1, a2⟩ := flat_all (f := pathNums) (n := 18) (l := p.2.1) fun x hx => pathNums_all (h2 x hx)
  refine ⟨?_, by simp only [pieceNums, List.length_cons]; omega⟩
  simp only [pieceNums, List.all_cons, Bool.and_eq_true]
  exact ⟨rateIs_of (by omega), rateIs_of (by omega), rateIs_of (by omega), a1⟩
theorem may_verts {r : Reply} (h : mayR r = true) (hk : rKind r = 3) : (rVerts r).length ≤ 8 ∧ (rVerts r).all rateIs = true ∧ 0 ≤ r.2.1.1 ∧ r.2.1.1 < 4096 := by
  simp only [mayR, hk, Bool.and_eq_true] at h
  have h := h.2
  simp only [show ¬ (3 : Int) = 1 by decide, show ¬ (3 : Int) = 2 by decide, if_false, if_true, Bool.and_eq_true, decide_eq_true_eq, vertsMay] at h
  obtain ⟨h1, h2, h3⟩ := h
  obtain ⟨a1, a2⟩ := vertsOk_spec (by omega) (by omega) h2
  refine ⟨by omega, ?_, h1⟩
  rw [List.all_eq_true]
  intro v hv
  have := a1 v hv
  exact rateIs_of (by omega)
theorem may_grant {r : Reply} (h : mayR r = true) (hk : rKind r = 2) : (grantNums r).all rateIs = true ∧ (grantNums r).length ≤ 2500 ∧ (rPieces r).length ≤ 8 ∧ ∀ p ∈ rPieces r, p.2.1.length ≤ 16 := by
  simp only [mayR, hk, Bool.and_eq_true] at h
  have h := h.2
  simp only [show ¬ (2 : Int) = 1 by decide, if_false, if_true, grantMay, piecesMay, Bool.and_eq_true, decide_eq_true_eq] at h
  obtain ⟨⟨⟨⟨h1, h2, h3⟩, h4⟩, h5⟩, ⟨h6, h7⟩, h8⟩ := h
  have hm := piecesOk_mem h8
  obtain ⟨a1, a2⟩ := flat_all (f := pieceNums) (n := 300) (l := rPieces r) fun p hp => pieceNums_all (hm p hp).1 (hm p hp).2.1 (hm p hp).2.2.2
  simp only [spanMay, decide_eq_true_eq] at h5
  refine ⟨?_, by simp only [grantNums, List.length_cons]; omega, h7, fun p hp => (hm p hp).2.1⟩
  simp only [grantNums, List.all_cons, Bool.and_eq_true]
  exact ⟨rateIs_of (by omega), h4, rateIs_of (by omega), rateIs_of (by omega), rateIs_of (by omega), a1⟩
theorem may_nums {r : Reply} (h : mayR r = true) : (numsR r).all rateIs = true ∧ (numsR r).length ≤ 2501 := by
  by_cases h1 : rKind r = 1
  · have e : numsR r = [1, rCode r] := by simp [numsR, h1]
    have h0 := h
    simp only [mayR, h1, if_true, Bool.and_eq_true, decide_eq_true_eq] at h0
    rw [e]
    refine ⟨?_, by simp⟩
    simp only [List.all_cons, List.all_nil, Bool.and_true, Bool.and_eq_true]
    exact ⟨rateIs_of (by omega), rateIs_of (by omega)⟩
  by_cases h2 : rKind r = 2
  · have e : numsR r = 2 :: grantNums r := by simp [numsR, h2]
    obtain ⟨a1, a2, _⟩ := may_grant h h2
    rw [e]
    exact ⟨by simp only [List.all_cons, Bool.and_eq_true]; exact ⟨rateIs_of (by omega), a1⟩, by simp only [List.length_cons]; omega⟩
  by_cases h3 : rKind r = 3
  · have e : numsR r = 3 :: r.2.1.1 :: ((rVerts r).length : Int) :: rVerts r := by simp [numsR, h3]
    obtain ⟨a1, a2, a3, a4⟩ := may_verts h h3
    rw [e]
    exact ⟨by simp only [List.all_cons, Bool.and_eq_true]; exact ⟨rateIs_of (by omega), rateIs_of (by omega), rateIs_of (by omega), a2⟩, by simp only [List.length_cons]; omega⟩
  by_cases h5 : rKind r = 5
  · have e : numsR r = [5, rValue r] := by simp [numsR, h5]
    have h0 := h
    simp only [mayR, h5, Bool.and_eq_true] at h0
    rw [e]
    refine ⟨?_, by simp⟩
    simp only [List.all_cons, List.all_nil, Bool.and_true, Bool.and_eq_true]
    exact ⟨rateIs_of (by omega), by simpa using h0.2⟩
  · have e : numsR r = [rKind r] := by simp [numsR, h1, h2, h3, h5]
    have h0 := h
    simp only [mayR, h1, h2, h3, h5, if_false, Bool.and_eq_true, decide_eq_true_eq] at h0
    rw [e]
    refine ⟨?_, by simp⟩
    simp only [List.all_cons, List.all_nil, Bool.and_true]
    exact rateIs_of (by omega)
def writeRes (r : Reply) : NV := if mayR r then .tup [sV ⟨(putB (numsR r)).toArray⟩, iV 0] else .tup [sV .empty, iV 2300]
theorem writeRes_t {r : Reply} (h : mayR r = true) : writeRes r = .tup [sV ⟨(putB (numsR r)).toArray⟩, iV 0] := if_pos h
theorem writeRes_f {r : Reply} (h : mayR r = false) : writeRes r = .tup [sV .empty, iV 2300] := if_neg (by rw [h]; simp)
theorem frz_nums {h : NHeap} {r n : Nat} {els : List (List NV)} {xs : List Int} (hg : h.get r = some ⟨els, 1, 1, true, none⟩) (hn : n = xs.length) (he : els = elsN shI xs) : L2 (Frz3 h) [.sl r 0 n n] [.fsl shI xs] :=
  ⟨FrzC.all hg rfl rfl hn (Nat.le_refl _) he, trivial⟩
theorem p_Write (r : Reply) (hv : (rVerts r).length < 9223372036854775807) : Pure F n_tell_Write [.agg (cellsN shReply r)] (writeRes r) := by
  refine PureP.start (m := c_tell_Write) (by kernel_rfl) rfl ?_
  simp -implicitDefEqProofs [c_tell_Write, r_tell_Write_0, r_tell_Write_1]
  refine (p_May r hv).call1 (by simp) ?_
  cases hm : mayR r
  · rw [writeRes_f hm]
    simp -implicitDefEqProofs [c_tell_Write, r_tell_Write_0, r_tell_Write_1, r_tell_Write_2, r_tell_Write_3, r_tell_Write_4, r_tell_Write_5, r_tell_Write_6, r_tell_Write_7, r_tell_Write_8, r_tell_Write_9, r_tell_Write_10, r_tell_Write_11, r_tell_Write_12, r_tell_Write_13, r_tell_Write_14, r_tell_Write_15, r_tell_Write_16, hm]
  obtain ⟨hall, hlen⟩ := may_nums hm
  have hput := p_Put (numsR r) (by omega)
  rw [putRes_t hall] at hput
  rw [writeRes_t hm]
  by_cases h1 : rKind r = 1
  · simp -implicitDefEqProofs [c_tell_Write, r_tell_Write_0, r_tell_Write_1, r_tell_Write_2, r_tell_Write_3, r_tell_Write_4, r_tell_Write_5, r_tell_Write_6, r_tell_Write_7, r_tell_Write_8, r_tell_Write_9, r_tell_Write_10, r_tell_Write_11, r_tell_Write_12, r_tell_Write_13, r_tell_Write_14, r_tell_Write_15, r_tell_Write_16, hm, h1]
    refine hput.callR1 [3] (frz_nums (els := elsN shI (numsR r)) (by simp [numsR, h1, elsN]) (by simp [numsR, h1]) rfl) rfl ?_
    simp -implicitDefEqProofs [c_tell_Write, r_tell_Write_0, r_tell_Write_1, r_tell_Write_2, r_tell_Write_3, r_tell_Write_4, r_tell_Write_5, r_tell_Write_6, r_tell_Write_7, r_tell_Write_8, r_tell_Write_9, r_tell_Write_10, r_tell_Write_11, r_tell_Write_12, r_tell_Write_13, r_tell_Write_14, r_tell_Write_15, r_tell_Write_16]
  by_cases h2 : rKind r = 2
  · obtain ⟨a1, a2, a3, a4⟩ := may_grant hm h2
    simp -implicitDefEqProofs [c_tell_Write, r_tell_Write_0, r_tell_Write_1, r_tell_Write_2, r_tell_Write_3, r_tell_Write_4, r_tell_Write_5, r_tell_Write_6, r_tell_Write_7, r_tell_Write_8, r_tell_Write_9, r_tell_Write_10, r_tell_Write_11, r_tell_Write_12, r_tell_Write_13, r_tell_Write_14, r_tell_Write_15, r_tell_Write_16, hm, h2]
    have hg := p_grant r (by omega) (fun p hp => by have := a4 p hp; omega) (by omega)
    simp [h2] at hg
    refine Pure.call1 hg (by simp) ?_
    have hne : ¬ grantNums r = [] := by simp [grantNums]
    have hl : ¬ 1 + (grantNums r).length ≤ 1 := by simp [grantNums]
    simp -implicitDefEqProofs [c_tell_Write, r_tell_Write_0, r_tell_Write_1, r_tell_Write_2, r_tell_Write_3, r_tell_Write_4, r_tell_Write_5, r_tell_Write_6, r_tell_Write_7, r_tell_Write_8, r_tell_Write_9, r_tell_Write_10, r_tell_Write_11, r_tell_Write_12, r_tell_Write_13, r_tell_Write_14, r_tell_Write_15, r_tell_Write_16, hne, hl, (show (1 + (grantNums r).length) * 8 ≤ 140737488355328 by omega)]
    refine hput.callR1 [2] (frz_nums (els := elsN shI (numsR r)) (by simp [numsR, h2, elsN]) (by simp [numsR, h2]; omega) rfl) rfl ?_
    simp -implicitDefEqProofs [c_tell_Write, r_tell_Write_0, r_tell_Write_1, r_tell_Write_2, r_tell_Write_3, r_tell_Write_4, r_tell_Write_5, r_tell_Write_6, r_tell_Write_7, r_tell_Write_8, r_tell_Write_9, r_tell_Write_10, r_tell_Write_11, r_tell_Write_12, r_tell_Write_13, r_tell_Write_14, r_tell_Write_15, r_tell_Write_16]
  by_cases h3 : rKind r = 3
  · obtain ⟨a1, a2, a3, a4⟩ := may_verts hm h3
    simp -implicitDefEqProofs [c_tell_Write, r_tell_Write_0, r_tell_Write_1, r_tell_Write_2, r_tell_Write_3, r_tell_Write_4, r_tell_Write_5, r_tell_Write_6, r_tell_Write_7, r_tell_Write_8, r_tell_Write_9, r_tell_Write_10, r_tell_Write_11, r_tell_Write_12, r_tell_Write_13, r_tell_Write_14, r_tell_Write_15, r_tell_Write_16, hm, h3]
    refine (p_counted (rVerts r) (by omega)).callD [] (by simp) rfl ?_
    simp -implicitDefEqProofs [c_tell_Write, r_tell_Write_0, r_tell_Write_1, r_tell_Write_2, r_tell_Write_3, r_tell_Write_4, r_tell_Write_5, r_tell_Write_6, r_tell_Write_7, r_tell_Write_8, r_tell_Write_9, r_tell_Write_10, r_tell_Write_11, r_tell_Write_12, r_tell_Write_13, r_tell_Write_14, r_tell_Write_15, r_tell_Write_16, (show (2 + ((rVerts r).length + 1)) * 8 ≤ 140737488355328 by omega), (show ¬ 2 + ((rVerts r).length + 1) ≤ 2 by omega)]
    refine hput.callR1 [4] (frz_nums (els := elsN shI (numsR r)) (by simp [numsR, h3, elsN]) (by simp [numsR, h3]; omega) rfl) rfl ?_
    simp -implicitDefEqProofs [c_tell_Write, r_tell_Write_0, r_tell_Write_1, r_tell_Write_2, r_tell_Write_3, r_tell_Write_4, r_tell_Write_5, r_tell_Write_6, r_tell_Write_7, r_tell_Write_8, r_tell_Write_9, r_tell_Write_10, r_tell_Write_11, r_tell_Write_12, r_tell_Write_13, r_tell_Write_14, r_tell_Write_15, r_tell_Write_16]
  by_cases h5 : rKind r = 5
  · simp -implicitDefEqProofs [c_tell_Write, r_tell_Write_0, r_tell_Write_1, r_tell_Write_2, r_tell_Write_3, r_tell_Write_4, r_tell_Write_5, r_tell_Write_6, r_tell_Write_7, r_tell_Write_8, r_tell_Write_9, r_tell_Write_10, r_tell_Write_11, r_tell_Write_12, r_tell_Write_13, r_tell_Write_14, r_tell_Write_15, r_tell_Write_16, hm, h5]
    refine hput.callR1 [3] (frz_nums (els := elsN shI (numsR r)) (by simp [numsR, h5, elsN]) (by simp [numsR, h5]) rfl) rfl ?_
    simp -implicitDefEqProofs [c_tell_Write, r_tell_Write_0, r_tell_Write_1, r_tell_Write_2, r_tell_Write_3, r_tell_Write_4, r_tell_Write_5, r_tell_Write_6, r_tell_Write_7, r_tell_Write_8, r_tell_Write_9, r_tell_Write_10, r_tell_Write_11, r_tell_Write_12, r_tell_Write_13, r_tell_Write_14, r_tell_Write_15, r_tell_Write_16]
  simp -implicitDefEqProofs [c_tell_Write, r_tell_Write_0, r_tell_Write_1, r_tell_Write_2, r_tell_Write_3, r_tell_Write_4, r_tell_Write_5, r_tell_Write_6, r_tell_Write_7, r_tell_Write_8, r_tell_Write_9, r_tell_Write_10, r_tell_Write_11, r_tell_Write_12, r_tell_Write_13, r_tell_Write_14, r_tell_Write_15, r_tell_Write_16, hm, h1, h2, h3, h5]
  refine hput.callR1 [1] (frz_nums (els := elsN shI (numsR r)) (by simp [numsR, h1, h2, h3, h5, elsN]) (by simp [numsR, h1, h2, h3, h5]) rfl) rfl ?_
  simp -implicitDefEqProofs [c_tell_Write, r_tell_Write_0, r_tell_Write_1, r_tell_Write_2, r_tell_Write_3, r_tell_Write_4, r_tell_Write_5, r_tell_Write_6, r_tell_Write_7, r_tell_Write_8, r_tell_Write_9, r_tell_Write_10, r_tell_Write_11, r_tell_Write_12, r_tell_Write_13, r_tell_Write_14, r_tell_Write_15, r_tell_Write_16]
end Go.Proofs.Ytnjmdkecpadehaa
