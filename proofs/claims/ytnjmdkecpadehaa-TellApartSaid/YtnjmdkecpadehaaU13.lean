import Derived.Test.YtnjmdkecpadehaaU12
set_option linter.all false
set_option linter.unusedSimpArgs false
namespace Go.Proofs.Ytnjmdkecpadehaa
open M
theorem l_rWrite_0 (p : Piece) {l : List (Nat × NRow)} {v1 v5 : NV} (rp : Nat) (hrp : getR l rp = some ⟨[cellsN shPiece p], 3, 52, true, some 52⟩) (hne : ∀ q ∈ p.2.1, q.2.1 ≠ []) {Q : Out → NEnv → NHeap → Prop} : ∀ k j acc nx r els n, els = elsN shI acc → n = acc.length → j + k = p.2.1.length → p.2.1.length < 9223372036854775807 → r < nx → rp < nx → getR l r = none → (∀ x, nx ≤ x → getR l x = none) → (acc.length + ((p.2.1.drop j).flatMap pathNums).length) * 8 ≤ 140737488355328 →
    (∀ nx' r', nx ≤ nx' → r' < nx' → getR l r' = none → Q (.ex 3) [(1, v1), (4, .sl r' 0 (acc ++ (p.2.1.drop j).flatMap pathNums).length (acc ++ (p.2.1.drop j).flatMap pathNums).length), (5, v5), (6, .ptr rp 0 0), (7, iV p.2.1.length), (71, bV false)] ⟨nx', (r', ⟨elsN shI (acc ++ (p.2.1.drop j).flatMap pathNums), 1, 1, true, none⟩) :: l⟩) →
    NWp F (.loop l_tollbarref22_WriteTell_0) [(1, v1), (4, .sl r 0 n n), (5, v5), (6, .ptr rp 0 0), (7, iV j)] ⟨nx, (r, ⟨els, 1, 1, true, none⟩) :: l⟩ Q := by
  intro k
  induction k with
  | zero =>
    intro j acc nx r els n he hn hj hb hr hrp2 hlr hl hsz hq
    subst he hn
    obtain rfl : j = p.2.1.length := by omega
    have f0 : ¬ r = rp := by rintro rfl; rw [hlr] at hrp; cases hrp
    refine NWp.loopE l_tollbarref22_WriteTell_0.eq_1 ?_
    simp -implicitDefEqProofs [r_tollbarref22_WriteTell_0, r_tollbarref22_WriteTell_1, r_tollbarref22_WriteTell_2, r_tollbarref22_WriteTell_3, r_tollbarref22_WriteTell_4, r_tollbarref22_WriteTell_5, r_tollbarref22_WriteTell_6, r_tollbarref22_WriteTell_7, r_tollbarref22_WriteTell_8, r_tollbarref22_WriteTell_9, r_tollbarref22_WriteTell_10, r_tollbarref22_WriteTell_11, r_tollbarref22_WriteTell_12, r_tollbarref22_WriteTell_13, r_tollbarref22_WriteTell_14, r_tollbarref22_WriteTell_15, r_tollbarref22_WriteTell_16, r_tollbarref22_WriteTell_17, r_tollbarref22_WriteTell_18, r_tollbarref22_WriteTell_19, r_tollbarref22_WriteTell_20, r_tollbarref22_WriteTell_21, r_tollbarref22_WriteTell_22, r_tollbarref22_WriteTell_23, r_tollbarref22_WriteTell_24, r_tollbarref22_WriteTell_25, f0, hrp]
    have := hq nx r (Nat.le_refl _) hr hlr
    simpa using this
  | succ k ih =>
    intro j acc nx r els n he hn hj hb hr hrp2 hlr hl hsz hq
    subst he hn
    have hlt : j < p.2.1.length := by omega
    have hw := wrap_succ (n := j) (by omega)
    rw [List.drop_eq_getElem_cons hlt, List.flatMap_cons] at hsz hq
    generalize hp : p.2.1[j] = q at hsz hq
    have hpl : (pathNums q).length = q.2.1.length + 2 := rfl
    rw [List.length_append, hpl] at hsz
    have f0 : ¬ r = rp := by rintro rfl; rw [hlr] at hrp; cases hrp
    have f1 : ¬ nx = r := by omega
    have f2 : ¬ nx + 1 = r := by omega
    have f3 : (acc.length + 2) * 8 ≤ 140737488355328 := by omega
    have f4 : ¬ acc.length + 2 ≤ acc.length := by omega
    have f5 : ¬ nx = rp := by omega
    have f6 : ¬ nx + 1 = rp := by omega
    have f7 : (acc.length + 2 + q.2.1.length) * 8 ≤ 140737488355328 := by omega
    refine NWp.loopE l_tollbarref22_WriteTell_0.eq_1 ?_
    have hqe : ¬ q.2.1 = [] := hne q (by rw [← hp]; exact List.getElem_mem hlt)
    have f8 : ¬ acc.length + 2 + q.2.1.length ≤ acc.length + 2 := by have := List.length_pos_iff.2 hqe; omega
    simp -implicitDefEqProofs [r_tollbarref22_WriteTell_0, r_tollbarref22_WriteTell_1, r_tollbarref22_WriteTell_2, r_tollbarref22_WriteTell_3, r_tollbarref22_WriteTell_4, r_tollbarref22_WriteTell_5, r_tollbarref22_WriteTell_6, r_tollbarref22_WriteTell_7, r_tollbarref22_WriteTell_8, r_tollbarref22_WriteTell_9, r_tollbarref22_WriteTell_10, r_tollbarref22_WriteTell_11, r_tollbarref22_WriteTell_12, r_tollbarref22_WriteTell_13, r_tollbarref22_WriteTell_14, r_tollbarref22_WriteTell_15, r_tollbarref22_WriteTell_16, r_tollbarref22_WriteTell_17, r_tollbarref22_WriteTell_18, r_tollbarref22_WriteTell_19, r_tollbarref22_WriteTell_20, r_tollbarref22_WriteTell_21, r_tollbarref22_WriteTell_22, r_tollbarref22_WriteTell_23, r_tollbarref22_WriteTell_24, r_tollbarref22_WriteTell_25, hlt, hp, f0, f1, f2, f3, f4, f5, f6, f7, f8, hqe, hrp, hrp2, delR_none hlr, delR_none (hl (nx + 1) (by omega)), hw]
    refine NWp.pop1 (hl nx (Nat.le_refl _)) ?_
    have hal : (acc ++ pathNums q).length = acc.length + 2 + q.2.1.length := by rw [List.length_append, hpl]; omega
    have h9 := ih (j + 1) (acc ++ pathNums q) (nx + 1 + 1 + 1) (nx + 1 + 1) _ _ rfl rfl (by omega) hb (by omega) (by omega) (hl _ (by omega)) (fun x hx => hl x (by omega)) (by rw [hal]; omega) (fun nx' r' a b c => by simpa [List.append_assoc] using hq nx' r' (by omega) b c)
    rw [hal, elsN_append] at h9
    rw [List.take_of_length_le (by simp)]
    have e1 : (elsN shI acc ++ [[iV q.1], [iV (q.2.1.length : Int)]]) ++ elsN shI q.2.1 = elsN shI acc ++ elsN shI (pathNums q) := by
      rw [List.append_assoc]; rfl
    rw [e1]
    exact h9
theorem l_rWrite_1 (R : Reply) {cs : List NV} (hcs : cs = cellsN shReply R) {Q : Out → NEnv → NHeap → Prop} : ∀ k i acc nx r els n, els = elsN shI acc → n = acc.length → i + k = (rPieces R).length → (rPieces R).length < 9223372036854775807 → (∀ p ∈ rPieces R, p.2.1.length < 9223372036854775807 ∧ ∀ q ∈ p.2.1, q.2.1 ≠ []) → 0 < r → r < nx → (acc.length + (((rPieces R).drop i).flatMap pieceNums).length) * 8 ≤ 140737488355328 →
    (∀ nx' r', nx ≤ nx' → 0 < r' → r' < nx' → Q (.ex 1) [(1, .ptr 0 0 0), (4, .sl r' 0 (acc ++ ((rPieces R).drop i).flatMap pieceNums).length (acc ++ ((rPieces R).drop i).flatMap pieceNums).length), (5, iV (rPieces R).length), (47, bV false)] ⟨nx', [(r', ⟨elsN shI (acc ++ ((rPieces R).drop i).flatMap pieceNums), 1, 1, true, none⟩), (0, ⟨[cs], 10, 10, true, none⟩)]⟩) →
    NWp F (.loop l_tollbarref22_WriteTell_1) [(1, .ptr 0 0 0), (4, .sl r 0 n n), (5, iV i)] ⟨nx, [(r, ⟨els, 1, 1, true, none⟩), (0, ⟨[cs], 10, 10, true, none⟩)]⟩ Q := by
  subst hcs
  intro k
  induction k with
  | zero =>
    intro i acc nx r els n he hn hi hb hbs hr0 hr hsz hq
    subst he hn
    have hlen : (rPieces R).length = R.2.2.2.2.2.2.2.1.length := rfl
    obtain rfl : i = (rPieces R).length := by omega
    refine NWp.loopE l_tollbarref22_WriteTell_1.eq_1 ?_
    simp -implicitDefEqProofs [r_tollbarref22_WriteTell_0, r_tollbarref22_WriteTell_1, r_tollbarref22_WriteTell_2, r_tollbarref22_WriteTell_3, r_tollbarref22_WriteTell_4, r_tollbarref22_WriteTell_5, r_tollbarref22_WriteTell_6, r_tollbarref22_WriteTell_7, r_tollbarref22_WriteTell_8, r_tollbarref22_WriteTell_9, r_tollbarref22_WriteTell_10, r_tollbarref22_WriteTell_11, r_tollbarref22_WriteTell_12, r_tollbarref22_WriteTell_13, r_tollbarref22_WriteTell_14, r_tollbarref22_WriteTell_15, r_tollbarref22_WriteTell_16, r_tollbarref22_WriteTell_17, r_tollbarref22_WriteTell_18, r_tollbarref22_WriteTell_19, r_tollbarref22_WriteTell_20, r_tollbarref22_WriteTell_21, r_tollbarref22_WriteTell_22, r_tollbarref22_WriteTell_23, r_tollbarref22_WriteTell_24, r_tollbarref22_WriteTell_25, (show ¬ r = 0 by omega)]
    have := hq nx r (Nat.le_refl _) hr0 hr
    simpa using this
  | succ k ih =>
    intro i acc nx r els n he hn hi hb hbs hr0 hr hsz hq
    subst he hn
    have hlen : (rPieces R).length = R.2.2.2.2.2.2.2.1.length := rfl
    have hlt : i < R.2.2.2.2.2.2.2.1.length := by omega
    have hw := wrap_succ (n := i) (by omega)
    rw [List.drop_eq_getElem_cons (by omega), List.flatMap_cons] at hsz hq
    generalize hp : R.2.2.2.2.2.2.2.1[i] = p at hsz hq
    obtain ⟨hpb, hpe⟩ := hbs p (by rw [← hp]; exact List.getElem_mem hlt)
    have hpl : (pieceNums p).length = (p.2.1.flatMap pathNums).length + 3 := rfl
    rw [List.length_append, hpl] at hsz
    have f0 : ¬ r = 0 := by omega
    have f1 : ¬ nx = r := by omega
    have f2 : ¬ nx + 1 = r := by omega
    have f3 : (acc.length + 3) * 8 ≤ 140737488355328 := by omega
    have f4 : ¬ acc.length + 3 ≤ acc.length := by omega
    have f5 : ¬ nx = 0 := by omega
    have f6 : ¬ 0 = r := by omega
    refine NWp.loopE l_tollbarref22_WriteTell_1.eq_1 ?_
    simp -implicitDefEqProofs [r_tollbarref22_WriteTell_0, r_tollbarref22_WriteTell_1, r_tollbarref22_WriteTell_2, r_tollbarref22_WriteTell_3, r_tollbarref22_WriteTell_4, r_tollbarref22_WriteTell_5, r_tollbarref22_WriteTell_6, r_tollbarref22_WriteTell_7, r_tollbarref22_WriteTell_8, r_tollbarref22_WriteTell_9, r_tollbarref22_WriteTell_10, r_tollbarref22_WriteTell_11, r_tollbarref22_WriteTell_12, r_tollbarref22_WriteTell_13, r_tollbarref22_WriteTell_14, r_tollbarref22_WriteTell_15, r_tollbarref22_WriteTell_16, r_tollbarref22_WriteTell_17, r_tollbarref22_WriteTell_18, r_tollbarref22_WriteTell_19, r_tollbarref22_WriteTell_20, r_tollbarref22_WriteTell_21, r_tollbarref22_WriteTell_22, r_tollbarref22_WriteTell_23, r_tollbarref22_WriteTell_24, r_tollbarref22_WriteTell_25, hlt, hp, f0, f1, f2, f3, f4, f5, f6]
    refine l_rWrite_0 p (l := [(nx + 1, _), (nx, ⟨[cellsN shPiece p], 3, 52, true, some 52⟩), (0, ⟨[cellsN shReply R], 10, 10, true, none⟩)]) nx (by simp) hpe p.2.1.length 0 (acc ++ [p.1.1, p.1.2.1, (p.2.1.length : Int)]) (nx + 1 + 1 + 1) (nx + 1 + 1) _ _ (by rw [elsN_append]; rfl) (by simp) (by omega) hpb (by omega) (by omega) (by simp) (fun x hx => by simp [show ¬ nx + 1 = x by omega, show ¬ nx = x by omega, show ¬ 0 = x by omega]) (by simp only [List.length_append, List.length_cons, List.length_nil, List.drop_zero]; omega) (fun nx' r' a b c => ?_)
    have c' : ¬ 0 = r' := by
      rintro rfl
      simp [f5] at c
    simp -implicitDefEqProofs [r_tollbarref22_WriteTell_0, r_tollbarref22_WriteTell_1, r_tollbarref22_WriteTell_2, r_tollbarref22_WriteTell_3, r_tollbarref22_WriteTell_4, r_tollbarref22_WriteTell_5, r_tollbarref22_WriteTell_6, r_tollbarref22_WriteTell_7, r_tollbarref22_WriteTell_8, r_tollbarref22_WriteTell_9, r_tollbarref22_WriteTell_10, r_tollbarref22_WriteTell_11, r_tollbarref22_WriteTell_12, r_tollbarref22_WriteTell_13, r_tollbarref22_WriteTell_14, r_tollbarref22_WriteTell_15, r_tollbarref22_WriteTell_16, r_tollbarref22_WriteTell_17, r_tollbarref22_WriteTell_18, r_tollbarref22_WriteTell_19, r_tollbarref22_WriteTell_20, r_tollbarref22_WriteTell_21, r_tollbarref22_WriteTell_22, r_tollbarref22_WriteTell_23, r_tollbarref22_WriteTell_24, r_tollbarref22_WriteTell_25, hw, c']
    refine NWp.pop1 (by simp [f5, show ¬ 0 = nx + 1 by omega]) ?_
    refine NWp.pop1 (by simp [show ¬ 0 = nx by omega]) ?_
    refine ih (i + 1) (acc ++ pieceNums p) nx' r' _ _ (by simp [pieceNums]) (by simp [pieceNums]) (by omega) hb hbs (by omega) b (by rw [List.length_append, hpl]; omega) (fun nx' r' a b c => by simpa [List.append_assoc] using hq nx' r' (by omega) b c)
theorem may_links {r : Reply} (h : mayR r = true) (hk : rKind r = 2) : ∀ p ∈ rPieces r, ∀ q ∈ p.2.1, q.2.1 ≠ [] := by
  simp only [mayR, hk, Bool.and_eq_true] at h
  have h := h.2
  simp only [show ¬ (2 : Int) = 1 by decide, if_false, if_true, grantMay, piecesMay, Bool.and_eq_true, decide_eq_true_eq] at h
  intro p hp q hq e
  have h1 := (piecesOk_mem h.2.2 p hp).2.2.2
  rw [List.all_eq_true] at h1
  have := h1 q hq
  simp only [pathOk, Bool.and_eq_true, decide_eq_true_eq] at this
  rw [e] at this
  have := this.1.2.2.1
  simp at this
theorem may_verts_ne {r : Reply} (h : mayR r = true) (hk : rKind r = 3) : rVerts r ≠ [] := by
  simp only [mayR, hk, Bool.and_eq_true] at h
  have h := h.2
  simp only [show ¬ (3 : Int) = 1 by decide, show ¬ (3 : Int) = 2 by decide, if_false, if_true, Bool.and_eq_true, decide_eq_true_eq, vertsMay] at h
  exact List.length_pos_iff.1 h.2.2
theorem p_WriteTell (r : Reply) (hf : fitsR r) : Pure F n_tollbarref22_WriteTell [.agg (cellsN shReply r)] (writeRes r) := by
  refine PureP.start (m := c_tollbarref22_WriteTell) (by kernel_rfl) rfl ?_
  simp -implicitDefEqProofs [c_tollbarref22_WriteTell, r_tollbarref22_WriteTell_0, r_tollbarref22_WriteTell_1]
  refine (p_ReplyMay r hf).call1 (by simp) ?_
  rw [may_eq]
  cases hm : mayR r
  · rw [writeRes_f hm]
    simp -implicitDefEqProofs [c_tollbarref22_WriteTell, r_tollbarref22_WriteTell_0, r_tollbarref22_WriteTell_1, r_tollbarref22_WriteTell_2, r_tollbarref22_WriteTell_3, r_tollbarref22_WriteTell_4, r_tollbarref22_WriteTell_5, r_tollbarref22_WriteTell_6, r_tollbarref22_WriteTell_7, r_tollbarref22_WriteTell_8, r_tollbarref22_WriteTell_9, r_tollbarref22_WriteTell_10, r_tollbarref22_WriteTell_11, r_tollbarref22_WriteTell_12, r_tollbarref22_WriteTell_13, r_tollbarref22_WriteTell_14, r_tollbarref22_WriteTell_15, r_tollbarref22_WriteTell_16, r_tollbarref22_WriteTell_17, r_tollbarref22_WriteTell_18, r_tollbarref22_WriteTell_19, r_tollbarref22_WriteTell_20, r_tollbarref22_WriteTell_21, r_tollbarref22_WriteTell_22, r_tollbarref22_WriteTell_23, r_tollbarref22_WriteTell_24, r_tollbarref22_WriteTell_25, hm]
  obtain ⟨hall, hlen⟩ := may_nums hm
  have hput := p_rPut (numsR r) (by omega)
  rw [putRes_t hall] at hput
  rw [writeRes_t hm]
  by_cases h1 : rKind r = 1
  · simp -implicitDefEqProofs [c_tollbarref22_WriteTell, r_tollbarref22_WriteTell_0, r_tollbarref22_WriteTell_1, r_tollbarref22_WriteTell_2, r_tollbarref22_WriteTell_3, r_tollbarref22_WriteTell_4, r_tollbarref22_WriteTell_5, r_tollbarref22_WriteTell_6, r_tollbarref22_WriteTell_7, r_tollbarref22_WriteTell_8, r_tollbarref22_WriteTell_9, r_tollbarref22_WriteTell_10, r_tollbarref22_WriteTell_11, r_tollbarref22_WriteTell_12, r_tollbarref22_WriteTell_13, r_tollbarref22_WriteTell_14, r_tollbarref22_WriteTell_15, r_tollbarref22_WriteTell_16, r_tollbarref22_WriteTell_17, r_tollbarref22_WriteTell_18, r_tollbarref22_WriteTell_19, r_tollbarref22_WriteTell_20, r_tollbarref22_WriteTell_21, r_tollbarref22_WriteTell_22, r_tollbarref22_WriteTell_23, r_tollbarref22_WriteTell_24, r_tollbarref22_WriteTell_25, hm, h1]
    refine hput.callR1 [3] (frz_nums (els := elsN shI (numsR r)) (by simp [numsR, h1, elsN]) (by simp [numsR, h1]) rfl) rfl ?_
    simp -implicitDefEqProofs [c_tollbarref22_WriteTell, r_tollbarref22_WriteTell_0, r_tollbarref22_WriteTell_1, r_tollbarref22_WriteTell_2, r_tollbarref22_WriteTell_3, r_tollbarref22_WriteTell_4, r_tollbarref22_WriteTell_5, r_tollbarref22_WriteTell_6, r_tollbarref22_WriteTell_7, r_tollbarref22_WriteTell_8, r_tollbarref22_WriteTell_9, r_tollbarref22_WriteTell_10, r_tollbarref22_WriteTell_11, r_tollbarref22_WriteTell_12, r_tollbarref22_WriteTell_13, r_tollbarref22_WriteTell_14, r_tollbarref22_WriteTell_15, r_tollbarref22_WriteTell_16, r_tollbarref22_WriteTell_17, r_tollbarref22_WriteTell_18, r_tollbarref22_WriteTell_19, r_tollbarref22_WriteTell_20, r_tollbarref22_WriteTell_21, r_tollbarref22_WriteTell_22, r_tollbarref22_WriteTell_23, r_tollbarref22_WriteTell_24, r_tollbarref22_WriteTell_25]
  by_cases h2 : rKind r = 2
  · obtain ⟨a1, a2, a3, a4⟩ := may_grant hm h2
    have hne := may_links hm h2
    simp -implicitDefEqProofs [c_tollbarref22_WriteTell, r_tollbarref22_WriteTell_0, r_tollbarref22_WriteTell_1, r_tollbarref22_WriteTell_2, r_tollbarref22_WriteTell_3, r_tollbarref22_WriteTell_4, r_tollbarref22_WriteTell_5, r_tollbarref22_WriteTell_6, r_tollbarref22_WriteTell_7, r_tollbarref22_WriteTell_8, r_tollbarref22_WriteTell_9, r_tollbarref22_WriteTell_10, r_tollbarref22_WriteTell_11, r_tollbarref22_WriteTell_12, r_tollbarref22_WriteTell_13, r_tollbarref22_WriteTell_14, r_tollbarref22_WriteTell_15, r_tollbarref22_WriteTell_16, r_tollbarref22_WriteTell_17, r_tollbarref22_WriteTell_18, r_tollbarref22_WriteTell_19, r_tollbarref22_WriteTell_20, r_tollbarref22_WriteTell_21, r_tollbarref22_WriteTell_22, r_tollbarref22_WriteTell_23, r_tollbarref22_WriteTell_24, r_tollbarref22_WriteTell_25, hm, h2]
    refine NWp.pop1 (by simp) ?_
    have hgl : (grantNums r).length = 5 + ((rPieces r).flatMap pieceNums).length := by
      simp only [grantNums, List.length_cons]; omega
    have e : [rKind r, rId r, rRate r, r.1.1, r.1.2.1, ((rPieces r).length : Int)] ++ ((rPieces r).drop 0).flatMap pieceNums = numsR r := by
      simp only [numsR, h2]; rfl
    refine l_rWrite_1 r (by simp [h2]) (rPieces r).length 0 [rKind r, rId r, rRate r, r.1.1, r.1.2.1, ((rPieces r).length : Int)] 4 3 _ _ (by rw [h2]; rfl) rfl (by omega) (by omega) (fun p hp => ⟨by have := a4 p hp; omega, hne p hp⟩) (by omega) (by omega) (by simp only [List.length_cons, List.length_nil, List.drop_zero]; omega) (fun nx' r' a b c => ?_)
    rw [e]
    simp -implicitDefEqProofs [c_tollbarref22_WriteTell, r_tollbarref22_WriteTell_0, r_tollbarref22_WriteTell_1, r_tollbarref22_WriteTell_2, r_tollbarref22_WriteTell_3, r_tollbarref22_WriteTell_4, r_tollbarref22_WriteTell_5, r_tollbarref22_WriteTell_6, r_tollbarref22_WriteTell_7, r_tollbarref22_WriteTell_8, r_tollbarref22_WriteTell_9, r_tollbarref22_WriteTell_10, r_tollbarref22_WriteTell_11, r_tollbarref22_WriteTell_12, r_tollbarref22_WriteTell_13, r_tollbarref22_WriteTell_14, r_tollbarref22_WriteTell_15, r_tollbarref22_WriteTell_16, r_tollbarref22_WriteTell_17, r_tollbarref22_WriteTell_18, r_tollbarref22_WriteTell_19, r_tollbarref22_WriteTell_20, r_tollbarref22_WriteTell_21, r_tollbarref22_WriteTell_22, r_tollbarref22_WriteTell_23, r_tollbarref22_WriteTell_24, r_tollbarref22_WriteTell_25]
    refine hput.callR1 [r'] (frz_nums (els := elsN shI (numsR r)) (by simp) rfl rfl) rfl ?_
    simp -implicitDefEqProofs [c_tollbarref22_WriteTell, r_tollbarref22_WriteTell_0, r_tollbarref22_WriteTell_1, r_tollbarref22_WriteTell_2, r_tollbarref22_WriteTell_3, r_tollbarref22_WriteTell_4, r_tollbarref22_WriteTell_5, r_tollbarref22_WriteTell_6, r_tollbarref22_WriteTell_7, r_tollbarref22_WriteTell_8, r_tollbarref22_WriteTell_9, r_tollbarref22_WriteTell_10, r_tollbarref22_WriteTell_11, r_tollbarref22_WriteTell_12, r_tollbarref22_WriteTell_13, r_tollbarref22_WriteTell_14, r_tollbarref22_WriteTell_15, r_tollbarref22_WriteTell_16, r_tollbarref22_WriteTell_17, r_tollbarref22_WriteTell_18, r_tollbarref22_WriteTell_19, r_tollbarref22_WriteTell_20, r_tollbarref22_WriteTell_21, r_tollbarref22_WriteTell_22, r_tollbarref22_WriteTell_23, r_tollbarref22_WriteTell_24, r_tollbarref22_WriteTell_25]
  by_cases h3 : rKind r = 3
  · obtain ⟨a1, a2, a3, a4⟩ := may_verts hm h3
    have e0 : (rVerts r).length = r.2.1.2.1.length := rfl
    have hne := may_verts_ne hm h3
    have f1 : ¬ 3 + (rVerts r).length ≤ 3 := by have := List.length_pos_iff.2 hne; omega
    simp -implicitDefEqProofs [c_tollbarref22_WriteTell, r_tollbarref22_WriteTell_0, r_tollbarref22_WriteTell_1, r_tollbarref22_WriteTell_2, r_tollbarref22_WriteTell_3, r_tollbarref22_WriteTell_4, r_tollbarref22_WriteTell_5, r_tollbarref22_WriteTell_6, r_tollbarref22_WriteTell_7, r_tollbarref22_WriteTell_8, r_tollbarref22_WriteTell_9, r_tollbarref22_WriteTell_10, r_tollbarref22_WriteTell_11, r_tollbarref22_WriteTell_12, r_tollbarref22_WriteTell_13, r_tollbarref22_WriteTell_14, r_tollbarref22_WriteTell_15, r_tollbarref22_WriteTell_16, r_tollbarref22_WriteTell_17, r_tollbarref22_WriteTell_18, r_tollbarref22_WriteTell_19, r_tollbarref22_WriteTell_20, r_tollbarref22_WriteTell_21, r_tollbarref22_WriteTell_22, r_tollbarref22_WriteTell_23, r_tollbarref22_WriteTell_24, r_tollbarref22_WriteTell_25, hm, h3, hne, f1, (show (3 + (rVerts r).length) * 8 ≤ 140737488355328 by omega)]
    refine hput.callR1 [4] (frz_nums (els := elsN shI (numsR r)) (by simp [numsR, h3, elsN]) (by simp [numsR, h3]; omega) rfl) rfl ?_
    simp -implicitDefEqProofs [c_tollbarref22_WriteTell, r_tollbarref22_WriteTell_0, r_tollbarref22_WriteTell_1, r_tollbarref22_WriteTell_2, r_tollbarref22_WriteTell_3, r_tollbarref22_WriteTell_4, r_tollbarref22_WriteTell_5, r_tollbarref22_WriteTell_6, r_tollbarref22_WriteTell_7, r_tollbarref22_WriteTell_8, r_tollbarref22_WriteTell_9, r_tollbarref22_WriteTell_10, r_tollbarref22_WriteTell_11, r_tollbarref22_WriteTell_12, r_tollbarref22_WriteTell_13, r_tollbarref22_WriteTell_14, r_tollbarref22_WriteTell_15, r_tollbarref22_WriteTell_16, r_tollbarref22_WriteTell_17, r_tollbarref22_WriteTell_18, r_tollbarref22_WriteTell_19, r_tollbarref22_WriteTell_20, r_tollbarref22_WriteTell_21, r_tollbarref22_WriteTell_22, r_tollbarref22_WriteTell_23, r_tollbarref22_WriteTell_24, r_tollbarref22_WriteTell_25]
  by_cases h5 : rKind r = 5
  · simp -implicitDefEqProofs [c_tollbarref22_WriteTell, r_tollbarref22_WriteTell_0, r_tollbarref22_WriteTell_1, r_tollbarref22_WriteTell_2, r_tollbarref22_WriteTell_3, r_tollbarref22_WriteTell_4, r_tollbarref22_WriteTell_5, r_tollbarref22_WriteTell_6, r_tollbarref22_WriteTell_7, r_tollbarref22_WriteTell_8, r_tollbarref22_WriteTell_9, r_tollbarref22_WriteTell_10, r_tollbarref22_WriteTell_11, r_tollbarref22_WriteTell_12, r_tollbarref22_WriteTell_13, r_tollbarref22_WriteTell_14, r_tollbarref22_WriteTell_15, r_tollbarref22_WriteTell_16, r_tollbarref22_WriteTell_17, r_tollbarref22_WriteTell_18, r_tollbarref22_WriteTell_19, r_tollbarref22_WriteTell_20, r_tollbarref22_WriteTell_21, r_tollbarref22_WriteTell_22, r_tollbarref22_WriteTell_23, r_tollbarref22_WriteTell_24, r_tollbarref22_WriteTell_25, hm, h5]
    refine hput.callR1 [3] (frz_nums (els := elsN shI (numsR r)) (by simp [numsR, h5, elsN]) (by simp [numsR, h5]) rfl) rfl ?_
    simp -implicitDefEqProofs [c_tollbarref22_WriteTell, r_tollbarref22_WriteTell_0, r_tollbarref22_WriteTell_1, r_tollbarref22_WriteTell_2, r_tollbarref22_WriteTell_3, r_tollbarref22_WriteTell_4, r_tollbarref22_WriteTell_5, r_tollbarref22_WriteTell_6, r_tollbarref22_WriteTell_7, r_tollbarref22_WriteTell_8, r_tollbarref22_WriteTell_9, r_tollbarref22_WriteTell_10, r_tollbarref22_WriteTell_11, r_tollbarref22_WriteTell_12, r_tollbarref22_WriteTell_13, r_tollbarref22_WriteTell_14, r_tollbarref22_WriteTell_15, r_tollbarref22_WriteTell_16, r_tollbarref22_WriteTell_17, r_tollbarref22_WriteTell_18, r_tollbarref22_WriteTell_19, r_tollbarref22_WriteTell_20, r_tollbarref22_WriteTell_21, r_tollbarref22_WriteTell_22, r_tollbarref22_WriteTell_23, r_tollbarref22_WriteTell_24, r_tollbarref22_WriteTell_25]
  simp -implicitDefEqProofs [c_tollbarref22_WriteTell, r_tollbarref22_WriteTell_0, r_tollbarref22_WriteTell_1, r_tollbarref22_WriteTell_2, r_tollbarref22_WriteTell_3, r_tollbarref22_WriteTell_4, r_tollbarref22_WriteTell_5, r_tollbarref22_WriteTell_6, r_tollbarref22_WriteTell_7, r_tollbarref22_WriteTell_8, r_tollbarref22_WriteTell_9, r_tollbarref22_WriteTell_10, r_tollbarref22_WriteTell_11, r_tollbarref22_WriteTell_12, r_tollbarref22_WriteTell_13, r_tollbarref22_WriteTell_14, r_tollbarref22_WriteTell_15, r_tollbarref22_WriteTell_16, r_tollbarref22_WriteTell_17, r_tollbarref22_WriteTell_18, r_tollbarref22_WriteTell_19, r_tollbarref22_WriteTell_20, r_tollbarref22_WriteTell_21, r_tollbarref22_WriteTell_22, r_tollbarref22_WriteTell_23, r_tollbarref22_WriteTell_24, r_tollbarref22_WriteTell_25, hm, h1, h2, h3, h5]
  refine hput.callR1 [1] (frz_nums (els := elsN shI (numsR r)) (by simp [numsR, h1, h2, h3, h5, elsN]) (by simp [numsR, h1, h2, h3, h5]) rfl) rfl ?_
  simp -implicitDefEqProofs [c_tollbarref22_WriteTell, r_tollbarref22_WriteTell_0, r_tollbarref22_WriteTell_1, r_tollbarref22_WriteTell_2, r_tollbarref22_WriteTell_3, r_tollbarref22_WriteTell_4, r_tollbarref22_WriteTell_5, r_tollbarref22_WriteTell_6, r_tollbarref22_WriteTell_7, r_tollbarref22_WriteTell_8, r_tollbarref22_WriteTell_9, r_tollbarref22_WriteTell_10, r_tollbarref22_WriteTell_11, r_tollbarref22_WriteTell_12, r_tollbarref22_WriteTell_13, r_tollbarref22_WriteTell_14, r_tollbarref22_WriteTell_15, r_tollbarref22_WriteTell_16, r_tollbarref22_WriteTell_17, r_tollbarref22_WriteTell_18, r_tollbarref22_WriteTell_19, r_tollbarref22_WriteTell_20, r_tollbarref22_WriteTell_21, r_tollbarref22_WriteTell_22, r_tollbarref22_WriteTell_23, r_tollbarref22_WriteTell_24, r_tollbarref22_WriteTell_25]
end Go.Proofs.Ytnjmdkecpadehaa
