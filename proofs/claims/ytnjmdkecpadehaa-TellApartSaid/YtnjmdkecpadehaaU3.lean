import Derived.Test.YtnjmdkecpadehaaU2
set_option linter.all false
set_option linter.unusedSimpArgs false
namespace Go.Proofs.Ytnjmdkecpadehaa
open M
def vertOk (x : Int) : Bool := decide (0 ≤ x ∧ x < 16)
def pathOk (p : Path) : Bool := decide (0 < p.1 ∧ p.1 ≤ 4611686018427387904 ∧ 1 ≤ p.2.1.length ∧ p.2.1.length ≤ 16) && p.2.1.all vertOk
theorem l_pathMay (xs : List Int) (hlen : xs.length ≤ 16) {h : NHeap} {Q : Out → NEnv → NHeap → Prop} : ∀ k i, i + k = xs.length → ((xs.drop i).all vertOk = true → ∀ e, Q (.ex 0) e h) → ((xs.drop i).all vertOk = false → Q .ret [(2, bV false)] h) →
    NWp F (.loop l_tell_pathMay_0) [(27, .fsl shI xs), (28, iV xs.length), (29, iV i)] h Q := by
  intro k
  induction k with
  | zero =>
    intro i hi h1 h2
    obtain rfl : i = xs.length := by omega
    refine NWp.loopE l_tell_pathMay_0.eq_1 ?_
    simp -implicitDefEqProofs [r_tell_pathMay_0, r_tell_pathMay_1, r_tell_pathMay_2, r_tell_pathMay_3, r_tell_pathMay_4, r_tell_pathMay_5, r_tell_pathMay_6, r_tell_pathMay_7, r_tell_pathMay_8, r_tell_pathMay_9]
    exact h1 (by simp) _
  | succ k ih =>
    intro i hi h1 h2
    have hlt : i < xs.length := by omega
    rw [List.drop_eq_getElem_cons hlt] at h1 h2
    have hw := wrap_succ (n := i) (by omega)
    refine NWp.loopE l_tell_pathMay_0.eq_1 ?_
    clear hw
    have hw : IntKind.i64.wrap ((i : Int) + 1) = (i : Int) + 1 := wrap_id (by omega)
    by_cases a : xs[i] < 0
    · simp -implicitDefEqProofs [r_tell_pathMay_0, r_tell_pathMay_1, r_tell_pathMay_2, r_tell_pathMay_3, r_tell_pathMay_4, r_tell_pathMay_5, r_tell_pathMay_6, r_tell_pathMay_7, r_tell_pathMay_8, r_tell_pathMay_9, hlt, a]
      exact h2 (by rw [List.all_cons, show vertOk xs[i] = false by simp [vertOk]; omega, Bool.false_and])
    by_cases b : 16 ≤ xs[i]
    · simp -implicitDefEqProofs [r_tell_pathMay_0, r_tell_pathMay_1, r_tell_pathMay_2, r_tell_pathMay_3, r_tell_pathMay_4, r_tell_pathMay_5, r_tell_pathMay_6, r_tell_pathMay_7, r_tell_pathMay_8, r_tell_pathMay_9, hlt, a, b]
      exact h2 (by rw [List.all_cons, show vertOk xs[i] = false by simp [vertOk]; omega, Bool.false_and])
    simp -implicitDefEqProofs [r_tell_pathMay_0, r_tell_pathMay_1, r_tell_pathMay_2, r_tell_pathMay_3, r_tell_pathMay_4, r_tell_pathMay_5, r_tell_pathMay_6, r_tell_pathMay_7, r_tell_pathMay_8, r_tell_pathMay_9, hlt, a, b, hw]
    have hv : vertOk xs[i] = true := by simp [vertOk]; omega
    exact ih (i + 1) (by omega) (fun h => h1 (by rw [List.all_cons, hv, h]; rfl)) (fun h => h2 (by rw [List.all_cons, hv, h]; rfl))
theorem p_pathMay (p : Path) : Pure F n_tell_pathMay [.agg (cellsN shPath p)] (bV (pathOk p)) := by
  refine PureP.start (m := c_tell_pathMay) (by kernel_rfl) rfl ?_
  by_cases a : p.1 ≤ 0
  · simp -implicitDefEqProofs [c_tell_pathMay, r_tell_pathMay_0, r_tell_pathMay_1, r_tell_pathMay_2, r_tell_pathMay_3, r_tell_pathMay_4, r_tell_pathMay_5, r_tell_pathMay_6, r_tell_pathMay_7, r_tell_pathMay_8, r_tell_pathMay_9, a, pathOk]
    omega
  simp -implicitDefEqProofs [c_tell_pathMay, r_tell_pathMay_0, r_tell_pathMay_1, a]
  refine (p_rate_Is p.1).call1 (by simp) ?_
  by_cases b : p.1 ≤ 4611686018427387904
  · by_cases c : p.2.1.length < 1
    · simp -implicitDefEqProofs [c_tell_pathMay, r_tell_pathMay_0, r_tell_pathMay_1, r_tell_pathMay_2, r_tell_pathMay_3, r_tell_pathMay_4, r_tell_pathMay_5, r_tell_pathMay_6, r_tell_pathMay_7, r_tell_pathMay_8, r_tell_pathMay_9, a, b, (show 0 ≤ p.1 by omega), (show (p.2.1.length : Int) < 1 by omega), pathOk]
      omega
    by_cases d : 16 < p.2.1.length
    · simp -implicitDefEqProofs [c_tell_pathMay, r_tell_pathMay_0, r_tell_pathMay_1, r_tell_pathMay_2, r_tell_pathMay_3, r_tell_pathMay_4, r_tell_pathMay_5, r_tell_pathMay_6, r_tell_pathMay_7, r_tell_pathMay_8, r_tell_pathMay_9, a, b, (show 0 ≤ p.1 by omega), (show ¬ (p.2.1.length : Int) < 1 by omega), (show (16 : Int) < p.2.1.length by omega), pathOk]
      omega
    simp -implicitDefEqProofs [c_tell_pathMay, r_tell_pathMay_0, r_tell_pathMay_1, r_tell_pathMay_2, r_tell_pathMay_3, r_tell_pathMay_4, r_tell_pathMay_5, r_tell_pathMay_6, r_tell_pathMay_7, r_tell_pathMay_8, r_tell_pathMay_9, a, b, (show 0 ≤ p.1 by omega), (show ¬ (p.2.1.length : Int) < 1 by omega), (show ¬ (16 : Int) < p.2.1.length by omega)]
    refine l_pathMay p.2.1 (by omega) p.2.1.length 0 (by omega) (fun h e => ?_) (fun h => ?_)
    · simp only [List.drop_zero] at h
      simp -implicitDefEqProofs [c_tell_pathMay, r_tell_pathMay_0, r_tell_pathMay_1, r_tell_pathMay_2, r_tell_pathMay_3, r_tell_pathMay_4, r_tell_pathMay_5, r_tell_pathMay_6, r_tell_pathMay_7, r_tell_pathMay_8, r_tell_pathMay_9, pathOk, h]
      omega
    · simp only [List.drop_zero] at h
      simp -implicitDefEqProofs [c_tell_pathMay, r_tell_pathMay_0, r_tell_pathMay_1, r_tell_pathMay_2, r_tell_pathMay_3, r_tell_pathMay_4, r_tell_pathMay_5, r_tell_pathMay_6, r_tell_pathMay_7, r_tell_pathMay_8, r_tell_pathMay_9, pathOk, h]
  · simp -implicitDefEqProofs [c_tell_pathMay, r_tell_pathMay_0, r_tell_pathMay_1, r_tell_pathMay_2, r_tell_pathMay_3, r_tell_pathMay_4, r_tell_pathMay_5, r_tell_pathMay_6, r_tell_pathMay_7, r_tell_pathMay_8, r_tell_pathMay_9, a, b, pathOk]
/-! pieces -/
def piecesOk : Int → List Piece → Int → Bool
  | at_, [], to => decide (at_ = to)
  | at_, p :: r, to => spanMay p.1.1 p.1.2.1 && decide (p.1.1 = at_) && decide (1 ≤ p.2.1.length ∧ p.2.1.length ≤ 16) && p.2.1.all pathOk && piecesOk p.1.2.1 r to
theorem l_piecesMay_0 (qs : List Path) (hlen : qs.length ≤ 16) {l : List (Nat × NRow)} {v2 v7 v20 v21 v22 : NV} {Q : Out → NEnv → NHeap → Prop} (h2 : (qs.all pathOk) = false → ∀ h', Q .ret [(4, bV false)] h') : ∀ k j m, j + k = qs.length → (∀ r, m ≤ r → getR l r = none) → ((qs.take j).all pathOk = true) →
    ((qs.all pathOk) = true → ∀ m', m ≤ m' → Q (.ex 2) [(2, v2), (7, v7), (20, v20), (21, v21), (22, v22), (50, .fsl shPath qs), (51, iV qs.length), (52, iV qs.length), (53, bV false)] ⟨m', l⟩) →
    NWp F (.loop l_tell_piecesMay_0) [(2, v2), (7, v7), (20, v20), (21, v21), (22, v22), (50, .fsl shPath qs), (51, iV qs.length), (52, iV j)] ⟨m, l⟩ Q := by
  intro k
  induction k with
  | zero =>
    intro j m hj hl ht h1
    obtain rfl : j = qs.length := by omega
    rw [List.take_length] at ht
    refine NWp.loopE l_tell_piecesMay_0.eq_1 ?_
    simp -implicitDefEqProofs [r_tell_piecesMay_0, r_tell_piecesMay_1, r_tell_piecesMay_2, r_tell_piecesMay_3, r_tell_piecesMay_4, r_tell_piecesMay_5, r_tell_piecesMay_6, r_tell_piecesMay_7, r_tell_piecesMay_8, r_tell_piecesMay_9, r_tell_piecesMay_10, r_tell_piecesMay_11, r_tell_piecesMay_12, r_tell_piecesMay_13, r_tell_piecesMay_14, r_tell_piecesMay_15, r_tell_piecesMay_16, r_tell_piecesMay_17]
    exact h1 ht m (Nat.le_refl _)
  | succ k ih =>
    intro j m hj hl ht h1
    have hlt : j < qs.length := by omega
    have hw := wrap_succ (n := j) (by omega)
    refine NWp.loopE l_tell_piecesMay_0.eq_1 ?_
    simp -implicitDefEqProofs [r_tell_piecesMay_0, r_tell_piecesMay_1, r_tell_piecesMay_2, r_tell_piecesMay_3, r_tell_piecesMay_4, r_tell_piecesMay_5, r_tell_piecesMay_6, r_tell_piecesMay_7, r_tell_piecesMay_8, r_tell_piecesMay_9, r_tell_piecesMay_10, r_tell_piecesMay_11, r_tell_piecesMay_12, r_tell_piecesMay_13, r_tell_piecesMay_14, r_tell_piecesMay_15, r_tell_piecesMay_16, r_tell_piecesMay_17, hlt]
    refine (p_pathMay qs[j]).call1 (by simp) ?_
    by_cases a : pathOk qs[j] = true
    · simp -implicitDefEqProofs [r_tell_piecesMay_0, r_tell_piecesMay_1, r_tell_piecesMay_2, r_tell_piecesMay_3, r_tell_piecesMay_4, r_tell_piecesMay_5, r_tell_piecesMay_6, r_tell_piecesMay_7, r_tell_piecesMay_8, r_tell_piecesMay_9, r_tell_piecesMay_10, r_tell_piecesMay_11, r_tell_piecesMay_12, r_tell_piecesMay_13, r_tell_piecesMay_14, r_tell_piecesMay_15, r_tell_piecesMay_16, r_tell_piecesMay_17, a, hw]
      refine NWp.pop (hl m (Nat.le_refl _)) ?_
      exact ih (j + 1) (m + 1) (by omega) (fun r hr => hl r (by omega)) (by rw [List.take_succ_eq_append_getElem hlt, List.all_append, ht]; simp [a]) (fun h m' hm' => h1 h m' (by omega))
    · simp -implicitDefEqProofs [r_tell_piecesMay_0, r_tell_piecesMay_1, r_tell_piecesMay_2, r_tell_piecesMay_3, r_tell_piecesMay_4, r_tell_piecesMay_5, r_tell_piecesMay_6, r_tell_piecesMay_7, r_tell_piecesMay_8, r_tell_piecesMay_9, r_tell_piecesMay_10, r_tell_piecesMay_11, r_tell_piecesMay_12, r_tell_piecesMay_13, r_tell_piecesMay_14, r_tell_piecesMay_15, r_tell_piecesMay_16, r_tell_piecesMay_17, a]
      refine h2 ?_ _
      rw [List.all_eq_false]
      exact ⟨_, List.getElem_mem hlt, by simpa using a⟩
theorem l_piecesMay_1 (ps : List Piece) (hlen : ps.length ≤ 8) (row : NRow) {Q : Out → NEnv → NHeap → Prop} : ∀ k i at_ nx, 0 < nx → i + k = ps.length → ∀ to,
    (∀ a nx, 0 < nx → (piecesOk at_ (ps.drop i) to = decide (a = to)) → Q (.ex 0) [(2, .ptr 0 0 0), (5, iV a), (20, .fsl shPiece ps), (21, iV ps.length), (22, iV ps.length), (23, bV false)] ⟨nx, [(0, row)]⟩) →
    (piecesOk at_ (ps.drop i) to = false → ∀ h', Q .ret [(4, bV false)] h') →
    NWp F (.loop l_tell_piecesMay_1) [(2, .ptr 0 0 0), (5, iV at_), (20, .fsl shPiece ps), (21, iV ps.length), (22, iV i)] ⟨nx, [(0, row)]⟩ Q := by
  intro k
  induction k with
  | zero =>
    intro i at_ nx hnx hi to h1 h2
    obtain rfl : i = ps.length := by omega
    refine NWp.loopE l_tell_piecesMay_1.eq_1 ?_
    simp -implicitDefEqProofs [r_tell_piecesMay_0, r_tell_piecesMay_1, r_tell_piecesMay_2, r_tell_piecesMay_3, r_tell_piecesMay_4, r_tell_piecesMay_5, r_tell_piecesMay_6, r_tell_piecesMay_7, r_tell_piecesMay_8, r_tell_piecesMay_9, r_tell_piecesMay_10, r_tell_piecesMay_11, r_tell_piecesMay_12, r_tell_piecesMay_13, r_tell_piecesMay_14, r_tell_piecesMay_15, r_tell_piecesMay_16, r_tell_piecesMay_17]
    exact h1 at_ nx hnx (by simp [piecesOk])
  | succ k ih =>
    intro i at_ nx hnx hi to h1 h2
    have hlt : i < ps.length := by omega
    have hw := wrap_succ (n := i) (by omega)
    rw [List.drop_eq_getElem_cons hlt, piecesOk] at h1 h2
    generalize hp : ps[i] = p at h1 h2
    refine NWp.loopE l_tell_piecesMay_1.eq_1 ?_
    simp -implicitDefEqProofs [r_tell_piecesMay_0, r_tell_piecesMay_1, r_tell_piecesMay_2, r_tell_piecesMay_3, r_tell_piecesMay_4, r_tell_piecesMay_5, r_tell_piecesMay_6, r_tell_piecesMay_7, r_tell_piecesMay_8, r_tell_piecesMay_9, r_tell_piecesMay_10, r_tell_piecesMay_11, r_tell_piecesMay_12, r_tell_piecesMay_13, r_tell_piecesMay_14, r_tell_piecesMay_15, r_tell_piecesMay_16, r_tell_piecesMay_17, hlt, hp]
    refine (p_span_May p.1.1 p.1.2.1).call1 (by simp) ?_
    by_cases a : spanMay p.1.1 p.1.2.1 = true
    · by_cases b : p.1.1 = at_
      · subst b
        by_cases c : p.2.1.length < 1
        · simp -implicitDefEqProofs [r_tell_piecesMay_0, r_tell_piecesMay_1, r_tell_piecesMay_2, r_tell_piecesMay_3, r_tell_piecesMay_4, r_tell_piecesMay_5, r_tell_piecesMay_6, r_tell_piecesMay_7, r_tell_piecesMay_8, r_tell_piecesMay_9, r_tell_piecesMay_10, r_tell_piecesMay_11, r_tell_piecesMay_12, r_tell_piecesMay_13, r_tell_piecesMay_14, r_tell_piecesMay_15, r_tell_piecesMay_16, r_tell_piecesMay_17, a, (show (p.2.1.length : Int) < 1 by omega)]
          exact h2 (by simp [show ¬ 1 ≤ p.2.1.length by omega]) _
        · by_cases d : 16 < p.2.1.length
          · simp -implicitDefEqProofs [r_tell_piecesMay_0, r_tell_piecesMay_1, r_tell_piecesMay_2, r_tell_piecesMay_3, r_tell_piecesMay_4, r_tell_piecesMay_5, r_tell_piecesMay_6, r_tell_piecesMay_7, r_tell_piecesMay_8, r_tell_piecesMay_9, r_tell_piecesMay_10, r_tell_piecesMay_11, r_tell_piecesMay_12, r_tell_piecesMay_13, r_tell_piecesMay_14, r_tell_piecesMay_15, r_tell_piecesMay_16, r_tell_piecesMay_17, a, (show ¬ (p.2.1.length : Int) < 1 by omega), (show (16 : Int) < p.2.1.length by omega)]
            exact h2 (by simp [show ¬ p.2.1.length ≤ 16 by omega]) _
          · simp -implicitDefEqProofs [r_tell_piecesMay_0, r_tell_piecesMay_1, r_tell_piecesMay_2, r_tell_piecesMay_3, r_tell_piecesMay_4, r_tell_piecesMay_5, r_tell_piecesMay_6, r_tell_piecesMay_7, r_tell_piecesMay_8, r_tell_piecesMay_9, r_tell_piecesMay_10, r_tell_piecesMay_11, r_tell_piecesMay_12, r_tell_piecesMay_13, r_tell_piecesMay_14, r_tell_piecesMay_15, r_tell_piecesMay_16, r_tell_piecesMay_17, a, (show ¬ (p.2.1.length : Int) < 1 by omega), (show ¬ (16 : Int) < p.2.1.length by omega)]
            refine l_piecesMay_0 p.2.1 (by omega) (fun h h' => ?_) p.2.1.length 0 (nx + 1) (by omega) (fun r hr => by simp [show ¬ nx = r by omega, show ¬ 0 = r by omega]) (by simp) (fun h m' hm' => ?_)
            · simp -implicitDefEqProofs [r_tell_piecesMay_0, r_tell_piecesMay_1, r_tell_piecesMay_2, r_tell_piecesMay_3, r_tell_piecesMay_4, r_tell_piecesMay_5, r_tell_piecesMay_6, r_tell_piecesMay_7, r_tell_piecesMay_8, r_tell_piecesMay_9, r_tell_piecesMay_10, r_tell_piecesMay_11, r_tell_piecesMay_12, r_tell_piecesMay_13, r_tell_piecesMay_14, r_tell_piecesMay_15, r_tell_piecesMay_16, r_tell_piecesMay_17]
              exact h2 (by simp [h]) _
            · simp -implicitDefEqProofs [r_tell_piecesMay_0, r_tell_piecesMay_1, r_tell_piecesMay_2, r_tell_piecesMay_3, r_tell_piecesMay_4, r_tell_piecesMay_5, r_tell_piecesMay_6, r_tell_piecesMay_7, r_tell_piecesMay_8, r_tell_piecesMay_9, r_tell_piecesMay_10, r_tell_piecesMay_11, r_tell_piecesMay_12, r_tell_piecesMay_13, r_tell_piecesMay_14, r_tell_piecesMay_15, r_tell_piecesMay_16, r_tell_piecesMay_17, hw]
              refine NWp.del nx ?_
              simp [show ¬ (0 : Nat) = nx by omega]
              have hx : (spanMay p.1.1 p.1.2.1 && decide (p.1.1 = p.1.1) && decide (1 ≤ p.2.1.length ∧ p.2.1.length ≤ 16) && p.2.1.all pathOk) = true := by
                simp [a, h, show 1 ≤ p.2.1.length by omega, show p.2.1.length ≤ 16 by omega]
              rw [hx, Bool.true_and] at h1 h2
              exact ih (i + 1) p.1.2.1 m' (by omega) (by omega) to h1 h2
      · simp -implicitDefEqProofs [r_tell_piecesMay_0, r_tell_piecesMay_1, r_tell_piecesMay_2, r_tell_piecesMay_3, r_tell_piecesMay_4, r_tell_piecesMay_5, r_tell_piecesMay_6, r_tell_piecesMay_7, r_tell_piecesMay_8, r_tell_piecesMay_9, r_tell_piecesMay_10, r_tell_piecesMay_11, r_tell_piecesMay_12, r_tell_piecesMay_13, r_tell_piecesMay_14, r_tell_piecesMay_15, r_tell_piecesMay_16, r_tell_piecesMay_17, a, b]
        exact h2 (by simp [b]) _
    · simp -implicitDefEqProofs [r_tell_piecesMay_0, r_tell_piecesMay_1, r_tell_piecesMay_2, r_tell_piecesMay_3, r_tell_piecesMay_4, r_tell_piecesMay_5, r_tell_piecesMay_6, r_tell_piecesMay_7, r_tell_piecesMay_8, r_tell_piecesMay_9, r_tell_piecesMay_10, r_tell_piecesMay_11, r_tell_piecesMay_12, r_tell_piecesMay_13, r_tell_piecesMay_14, r_tell_piecesMay_15, r_tell_piecesMay_16, r_tell_piecesMay_17, a]
      exact h2 (by simp [a]) _
def piecesMay (f to : Int) (ps : List Piece) : Bool := decide (1 ≤ ps.length ∧ ps.length ≤ 8) && piecesOk f ps to
theorem p_piecesMay (f to : Int) (ps : List Piece) : Pure F n_tell_piecesMay [.agg [iV f, iV to], .fsl shPiece ps] (bV (piecesMay f to ps)) := by
  refine PureP.start (m := c_tell_piecesMay) (by kernel_rfl) rfl ?_
  by_cases a : ps.length < 1
  · simp -implicitDefEqProofs [c_tell_piecesMay, r_tell_piecesMay_0, r_tell_piecesMay_1, r_tell_piecesMay_2, r_tell_piecesMay_3, r_tell_piecesMay_4, r_tell_piecesMay_5, r_tell_piecesMay_6, r_tell_piecesMay_7, r_tell_piecesMay_8, r_tell_piecesMay_9, r_tell_piecesMay_10, r_tell_piecesMay_11, r_tell_piecesMay_12, r_tell_piecesMay_13, r_tell_piecesMay_14, r_tell_piecesMay_15, r_tell_piecesMay_16, r_tell_piecesMay_17, (show (ps.length : Int) < 1 by omega), piecesMay]
    omega
  by_cases b : 8 < ps.length
  · simp -implicitDefEqProofs [c_tell_piecesMay, r_tell_piecesMay_0, r_tell_piecesMay_1, r_tell_piecesMay_2, r_tell_piecesMay_3, r_tell_piecesMay_4, r_tell_piecesMay_5, r_tell_piecesMay_6, r_tell_piecesMay_7, r_tell_piecesMay_8, r_tell_piecesMay_9, r_tell_piecesMay_10, r_tell_piecesMay_11, r_tell_piecesMay_12, r_tell_piecesMay_13, r_tell_piecesMay_14, r_tell_piecesMay_15, r_tell_piecesMay_16, r_tell_piecesMay_17, (show ¬ (ps.length : Int) < 1 by omega), (show (8 : Int) < ps.length by omega), piecesMay]
    omega
  simp -implicitDefEqProofs [c_tell_piecesMay, r_tell_piecesMay_0, r_tell_piecesMay_1, r_tell_piecesMay_2, r_tell_piecesMay_3, r_tell_piecesMay_4, r_tell_piecesMay_5, r_tell_piecesMay_6, r_tell_piecesMay_7, r_tell_piecesMay_8, r_tell_piecesMay_9, r_tell_piecesMay_10, r_tell_piecesMay_11, r_tell_piecesMay_12, r_tell_piecesMay_13, r_tell_piecesMay_14, r_tell_piecesMay_15, r_tell_piecesMay_16, r_tell_piecesMay_17, (show ¬ (ps.length : Int) < 1 by omega), (show ¬ (8 : Int) < ps.length by omega)]
  have hm : piecesMay f to ps = piecesOk f ps to := by
    simp [piecesMay, show 1 ≤ ps.length by omega, show ps.length ≤ 8 by omega]
  refine l_piecesMay_1 ps (by omega) _ ps.length 0 f 1 (by omega) (by omega) to (fun a nx hnx h => ?_) (fun h h' => ?_)
  · rw [List.drop_zero] at h
    simp -implicitDefEqProofs [c_tell_piecesMay, r_tell_piecesMay_0, r_tell_piecesMay_1, r_tell_piecesMay_2, r_tell_piecesMay_3, r_tell_piecesMay_4, r_tell_piecesMay_5, r_tell_piecesMay_6, r_tell_piecesMay_7, r_tell_piecesMay_8, r_tell_piecesMay_9, r_tell_piecesMay_10, r_tell_piecesMay_11, r_tell_piecesMay_12, r_tell_piecesMay_13, r_tell_piecesMay_14, r_tell_piecesMay_15, r_tell_piecesMay_16, r_tell_piecesMay_17, hm, h]
  · rw [List.drop_zero] at h
    simp -implicitDefEqProofs [c_tell_piecesMay, r_tell_piecesMay_0, r_tell_piecesMay_1, r_tell_piecesMay_2, r_tell_piecesMay_3, r_tell_piecesMay_4, r_tell_piecesMay_5, r_tell_piecesMay_6, r_tell_piecesMay_7, r_tell_piecesMay_8, r_tell_piecesMay_9, r_tell_piecesMay_10, r_tell_piecesMay_11, r_tell_piecesMay_12, r_tell_piecesMay_13, r_tell_piecesMay_14, r_tell_piecesMay_15, r_tell_piecesMay_16, r_tell_piecesMay_17, hm, h]
/-! verts -/
def vertsOk : Int → List Int → Bool
  | _, [] => true
  | prev, v :: r => decide (0 ≤ v ∧ v < 8 ∧ prev < v) && vertsOk v r
theorem l_vertsMay (xs : List Int) (hsz : xs.length < 9223372036854775807) {h : NHeap} {Q : Out → NEnv → NHeap → Prop} : ∀ k i prev, i + k = xs.length → (i = 0 → prev = -1) → (∀ j, i = j + 1 → xs[j]? = some prev) → (vertsOk prev (xs.drop i) = true → Q (.ex 0) [(0, .fsl shI xs), (5, .fsl shI xs), (6, iV xs.length), (7, iV xs.length), (8, bV false)] h) → (vertsOk prev (xs.drop i) = false → Q .ret [(2, bV false)] h) →
    NWp F (.loop l_tell_vertsMay_0) [(0, .fsl shI xs), (5, .fsl shI xs), (6, iV xs.length), (7, iV i)] h Q := by
  intro k
  induction k with
  | zero =>
    intro i prev hi _ _ h1 h2
    obtain rfl : i = xs.length := by omega
    refine NWp.loopE l_tell_vertsMay_0.eq_1 ?_
    simp -implicitDefEqProofs [r_tell_vertsMay_0, r_tell_vertsMay_1, r_tell_vertsMay_2, r_tell_vertsMay_3, r_tell_vertsMay_4, r_tell_vertsMay_5, r_tell_vertsMay_6, r_tell_vertsMay_7]
    exact h1 (by simp [vertsOk])
  | succ k ih =>
    intro i prev hi hp0 hp1 h1 h2
    have hlt : i < xs.length := by omega
    have hw := wrap_succ (n := i) (by omega)
    rw [List.drop_eq_getElem_cons hlt, vertsOk] at h1 h2
    generalize hv : xs[i] = v at h1 h2
    have next : NWp F (.loop l_tell_vertsMay_0) [(0, .fsl shI xs), (5, .fsl shI xs), (6, iV xs.length), (7, iV ((i + 1 : Nat) : Int))] h Q ∨ ¬ (0 ≤ v ∧ v < 8 ∧ prev < v) := by
      by_cases c : 0 ≤ v ∧ v < 8 ∧ prev < v
      · left
        simp only [c, and_self, decide_true, Bool.true_and] at h1 h2
        exact ih (i + 1) v (by omega) (by omega) (fun j hj => by
          obtain rfl : i = j := by omega
          rw [List.getElem?_eq_getElem hlt, hv]) h1 h2
      · exact .inr c
    refine NWp.loopE l_tell_vertsMay_0.eq_1 ?_
    by_cases a : v < 0
    · simp -implicitDefEqProofs [r_tell_vertsMay_0, r_tell_vertsMay_1, r_tell_vertsMay_2, r_tell_vertsMay_3, r_tell_vertsMay_4, r_tell_vertsMay_5, r_tell_vertsMay_6, r_tell_vertsMay_7, hlt, hv, a]
      exact h2 (by simp [show ¬ 0 ≤ v by omega])
    by_cases b : 8 ≤ v
    · simp -implicitDefEqProofs [r_tell_vertsMay_0, r_tell_vertsMay_1, r_tell_vertsMay_2, r_tell_vertsMay_3, r_tell_vertsMay_4, r_tell_vertsMay_5, r_tell_vertsMay_6, r_tell_vertsMay_7, hlt, hv, a, b]
      exact h2 (by simp [show ¬ v < 8 by omega])
    by_cases c : 0 < i
    · obtain ⟨j, hij⟩ : ∃ j, i = j + 1 := ⟨i - 1, by omega⟩
      have hj : j < xs.length := by omega
      have hpj := hp1 j hij
      rw [List.getElem?_eq_getElem hj] at hpj
      have hpj : xs[j] = prev := by simpa using hpj
      have hw2 : IntKind.i64.wrap ((i : Int) - 1) = (j : Int) := by rw [wrap_id (by omega)]; omega
      by_cases d : v ≤ prev
      · simp -implicitDefEqProofs [r_tell_vertsMay_0, r_tell_vertsMay_1, r_tell_vertsMay_2, r_tell_vertsMay_3, r_tell_vertsMay_4, r_tell_vertsMay_5, r_tell_vertsMay_6, r_tell_vertsMay_7, hlt, hv, a, b, c, hw2, hj, hpj, d]
        exact h2 (by simp [show ¬ prev < v by omega])
      · simp -implicitDefEqProofs [r_tell_vertsMay_0, r_tell_vertsMay_1, r_tell_vertsMay_2, r_tell_vertsMay_3, r_tell_vertsMay_4, r_tell_vertsMay_5, r_tell_vertsMay_6, r_tell_vertsMay_7, hlt, hv, a, b, c, hw2, hj, hpj, d, hw]
        exact next.resolve_right (by omega)
    · obtain rfl : i = 0 := by omega
      have := hp0 rfl
      subst this
      simp -implicitDefEqProofs [r_tell_vertsMay_0, r_tell_vertsMay_1, r_tell_vertsMay_2, r_tell_vertsMay_3, r_tell_vertsMay_4, r_tell_vertsMay_5, r_tell_vertsMay_6, r_tell_vertsMay_7, hlt, hv, a, b, hw]
      exact next.resolve_right (by omega)
def vertsMay (vs : List Int) : Bool := vertsOk (-1) vs && decide (0 < vs.length)
theorem p_vertsMay (vs : List Int) (hsz : vs.length < 9223372036854775807) : Pure F n_tell_vertsMay [.fsl shI vs] (bV (vertsMay vs)) := by
  refine PureP.start (m := c_tell_vertsMay) (by kernel_rfl) rfl ?_
  simp -implicitDefEqProofs [c_tell_vertsMay, r_tell_vertsMay_0, r_tell_vertsMay_1, r_tell_vertsMay_2, r_tell_vertsMay_3, r_tell_vertsMay_4, r_tell_vertsMay_5, r_tell_vertsMay_6, r_tell_vertsMay_7]
  refine l_vertsMay vs hsz vs.length 0 (-1) (by omega) (fun _ => rfl) (fun j hj => by omega) (fun h => ?_) (fun h => ?_)
  · rw [List.drop_zero] at h
    simp -implicitDefEqProofs [c_tell_vertsMay, r_tell_vertsMay_0, r_tell_vertsMay_1, r_tell_vertsMay_2, r_tell_vertsMay_3, r_tell_vertsMay_4, r_tell_vertsMay_5, r_tell_vertsMay_6, r_tell_vertsMay_7, vertsMay, h]
  · rw [List.drop_zero] at h
    simp -implicitDefEqProofs [c_tell_vertsMay, r_tell_vertsMay_0, r_tell_vertsMay_1, r_tell_vertsMay_2, r_tell_vertsMay_3, r_tell_vertsMay_4, r_tell_vertsMay_5, r_tell_vertsMay_6, r_tell_vertsMay_7, vertsMay, h]
end Go.Proofs.Ytnjmdkecpadehaa
