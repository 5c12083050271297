import Derived.Test.YtnjmdkecpadehaaU8
set_option linter.all false
set_option linter.unusedSimpArgs false
namespace Go.Proofs.Ytnjmdkecpadehaa
open M
def chOk : Int → List Piece → Int → Bool
  | a, [], to => decide (a = to)
  | a, p :: r, to => decide (p.1.1 = a) && spanMay p.1.1 p.1.2.1 && chOk p.1.2.1 r to
theorem l_Chained (ps : List Piece) (hsz : ps.length < 9223372036854775807) {h : NHeap} {v2 : NV} {Q : Out → NEnv → NHeap → Prop} : ∀ k i at_, i + k = ps.length → ∀ to,
    (∀ a, (chOk at_ (ps.drop i) to = decide (a = to)) → ∀ j, Q (.ex 0) [(1, .fsl shPiece ps), (2, v2), (5, iV a), (6, iV j), (20, bV false)] h) →
    (chOk at_ (ps.drop i) to = false → Q .ret [(4, bV false)] h) →
    NWp F (.loop l_tollbarref19_Chained_0) [(1, .fsl shPiece ps), (2, v2), (5, iV at_), (6, iV i)] h Q := by
  intro k
  induction k with
  | zero =>
    intro i at_ hi to h1 h2
    obtain rfl : i = ps.length := by omega
    refine NWp.loopE l_tollbarref19_Chained_0.eq_1 ?_
    simp -implicitDefEqProofs [r_tollbarref19_Chained_0, r_tollbarref19_Chained_1, r_tollbarref19_Chained_2, r_tollbarref19_Chained_3, r_tollbarref19_Chained_4, r_tollbarref19_Chained_5, r_tollbarref19_Chained_6, r_tollbarref19_Chained_7, r_tollbarref19_Chained_8, r_tollbarref19_Chained_9, r_tollbarref19_Chained_10]
    exact h1 at_ (by simp [chOk]) _
  | succ k ih =>
    intro i at_ hi to h1 h2
    have hlt : i < ps.length := by omega
    have hw := wrap_succ (n := i) (by omega)
    rw [List.drop_eq_getElem_cons hlt, chOk] at h1 h2
    generalize hp : ps[i] = p at h1 h2
    refine NWp.loopE l_tollbarref19_Chained_0.eq_1 ?_
    by_cases a : p.1.1 = at_
    · subst a
      simp -implicitDefEqProofs [r_tollbarref19_Chained_0, r_tollbarref19_Chained_1, r_tollbarref19_Chained_2, r_tollbarref19_Chained_3, r_tollbarref19_Chained_4, r_tollbarref19_Chained_5, r_tollbarref19_Chained_6, r_tollbarref19_Chained_7, r_tollbarref19_Chained_8, r_tollbarref19_Chained_9, r_tollbarref19_Chained_10, hlt, hp]
      refine (p_SpanMay p.1.1 p.1.2.1).call1 (by simp) ?_
      cases b : spanMay p.1.1 p.1.2.1
      · simp -implicitDefEqProofs [r_tollbarref19_Chained_0, r_tollbarref19_Chained_1, r_tollbarref19_Chained_2, r_tollbarref19_Chained_3, r_tollbarref19_Chained_4, r_tollbarref19_Chained_5, r_tollbarref19_Chained_6, r_tollbarref19_Chained_7, r_tollbarref19_Chained_8, r_tollbarref19_Chained_9, r_tollbarref19_Chained_10, hlt, hp, b]
        exact h2 (by simp [b])
      · simp -implicitDefEqProofs [r_tollbarref19_Chained_0, r_tollbarref19_Chained_1, r_tollbarref19_Chained_2, r_tollbarref19_Chained_3, r_tollbarref19_Chained_4, r_tollbarref19_Chained_5, r_tollbarref19_Chained_6, r_tollbarref19_Chained_7, r_tollbarref19_Chained_8, r_tollbarref19_Chained_9, r_tollbarref19_Chained_10, hlt, hp, b, hw]
        simp only [b, Bool.and_true, decide_true, Bool.true_and] at h1 h2
        exact ih (i + 1) p.1.2.1 (by omega) to h1 h2
    · simp -implicitDefEqProofs [r_tollbarref19_Chained_0, r_tollbarref19_Chained_1, r_tollbarref19_Chained_2, r_tollbarref19_Chained_3, r_tollbarref19_Chained_4, r_tollbarref19_Chained_5, r_tollbarref19_Chained_6, r_tollbarref19_Chained_7, r_tollbarref19_Chained_8, r_tollbarref19_Chained_9, r_tollbarref19_Chained_10, hlt, hp, a]
      exact h2 (by simp [a])
def chained (f to : Int) (ps : List Piece) : Bool := spanMay f to && decide (1 ≤ ps.length) && chOk f ps to
theorem p_Chained (f to : Int) (ps : List Piece) (hsz : ps.length < 9223372036854775807) : Pure F n_tollbarref19_Chained [.agg [iV f, iV to], .fsl shPiece ps] (bV (chained f to ps)) := by
  refine PureP.start (m := c_tollbarref19_Chained) (by kernel_rfl) rfl ?_
  simp -implicitDefEqProofs [c_tollbarref19_Chained, r_tollbarref19_Chained_0, r_tollbarref19_Chained_1, r_tollbarref19_Chained_2, r_tollbarref19_Chained_3, r_tollbarref19_Chained_4, r_tollbarref19_Chained_5, r_tollbarref19_Chained_6, r_tollbarref19_Chained_7, r_tollbarref19_Chained_8, r_tollbarref19_Chained_9, r_tollbarref19_Chained_10]
  refine (p_SpanMay f to).call1 (by simp) ?_
  cases a : spanMay f to
  · simp -implicitDefEqProofs [c_tollbarref19_Chained, r_tollbarref19_Chained_0, r_tollbarref19_Chained_1, r_tollbarref19_Chained_2, r_tollbarref19_Chained_3, r_tollbarref19_Chained_4, r_tollbarref19_Chained_5, r_tollbarref19_Chained_6, r_tollbarref19_Chained_7, r_tollbarref19_Chained_8, r_tollbarref19_Chained_9, r_tollbarref19_Chained_10, a, chained]
  by_cases b : ps.length = 0
  · simp -implicitDefEqProofs [c_tollbarref19_Chained, r_tollbarref19_Chained_0, r_tollbarref19_Chained_1, r_tollbarref19_Chained_2, r_tollbarref19_Chained_3, r_tollbarref19_Chained_4, r_tollbarref19_Chained_5, r_tollbarref19_Chained_6, r_tollbarref19_Chained_7, r_tollbarref19_Chained_8, r_tollbarref19_Chained_9, r_tollbarref19_Chained_10, a, b, chained]
  simp -implicitDefEqProofs [c_tollbarref19_Chained, r_tollbarref19_Chained_0, r_tollbarref19_Chained_1, r_tollbarref19_Chained_2, r_tollbarref19_Chained_3, r_tollbarref19_Chained_4, r_tollbarref19_Chained_5, r_tollbarref19_Chained_6, r_tollbarref19_Chained_7, r_tollbarref19_Chained_8, r_tollbarref19_Chained_9, r_tollbarref19_Chained_10, a, b]
  refine l_Chained ps hsz ps.length 0 f (by omega) to (fun a' h j => ?_) (fun h => ?_)
  · rw [List.drop_zero] at h
    simp -implicitDefEqProofs [c_tollbarref19_Chained, r_tollbarref19_Chained_0, r_tollbarref19_Chained_1, r_tollbarref19_Chained_2, r_tollbarref19_Chained_3, r_tollbarref19_Chained_4, r_tollbarref19_Chained_5, r_tollbarref19_Chained_6, r_tollbarref19_Chained_7, r_tollbarref19_Chained_8, r_tollbarref19_Chained_9, r_tollbarref19_Chained_10, chained, a, h, show 1 ≤ ps.length by omega]
  · rw [List.drop_zero] at h
    simp -implicitDefEqProofs [c_tollbarref19_Chained, r_tollbarref19_Chained_0, r_tollbarref19_Chained_1, r_tollbarref19_Chained_2, r_tollbarref19_Chained_3, r_tollbarref19_Chained_4, r_tollbarref19_Chained_5, r_tollbarref19_Chained_6, r_tollbarref19_Chained_7, r_tollbarref19_Chained_8, r_tollbarref19_Chained_9, r_tollbarref19_Chained_10, chained, a, h]
def pathsOk (ps : List Path) : Bool := decide (1 ≤ ps.length ∧ ps.length ≤ 16) && ps.all pathOk
theorem l_pathsMay_0 (ps : List Path) (i : Nat) (hlt : i < ps.length) (p : Path) (hp : ps[i] = p) (hlen : p.2.1.length ≤ 16) {h : NHeap} {Q : Out → NEnv → NHeap → Prop} : ∀ k j, j + k = p.2.1.length → ((p.2.1.drop j).all vertOk = true → ∀ j, Q (.ex 2) [(0, .fsl shPath ps), (3, iV i), (4, iV j), (58, bV false)] h) → ((p.2.1.drop j).all vertOk = false → Q .ret [(2, bV false)] h) →
    NWp F (.loop l_tollbarref22_pathsMay_0) [(0, .fsl shPath ps), (3, iV i), (4, iV j)] h Q := by
  intro k
  induction k with
  | zero =>
    intro j hj h1 h2
    obtain rfl : j = p.2.1.length := by omega
    refine NWp.loopE l_tollbarref22_pathsMay_0.eq_1 ?_
    simp -implicitDefEqProofs [r_tollbarref22_pathsMay_0, r_tollbarref22_pathsMay_1, r_tollbarref22_pathsMay_2, r_tollbarref22_pathsMay_3, r_tollbarref22_pathsMay_4, r_tollbarref22_pathsMay_5, r_tollbarref22_pathsMay_6, r_tollbarref22_pathsMay_7, r_tollbarref22_pathsMay_8, r_tollbarref22_pathsMay_9, r_tollbarref22_pathsMay_10, r_tollbarref22_pathsMay_11, r_tollbarref22_pathsMay_12, r_tollbarref22_pathsMay_13, hlt, hp]
    exact h1 (by simp) _
  | succ k ih =>
    intro j hj h1 h2
    have hlj : j < p.2.1.length := by omega
    rw [List.drop_eq_getElem_cons hlj] at h1 h2
    have hw := wrap_succ (n := j) (by omega)
    refine NWp.loopE l_tollbarref22_pathsMay_0.eq_1 ?_
    by_cases a : p.2.1[j] < 0
    · simp -implicitDefEqProofs [r_tollbarref22_pathsMay_0, r_tollbarref22_pathsMay_1, r_tollbarref22_pathsMay_2, r_tollbarref22_pathsMay_3, r_tollbarref22_pathsMay_4, r_tollbarref22_pathsMay_5, r_tollbarref22_pathsMay_6, r_tollbarref22_pathsMay_7, r_tollbarref22_pathsMay_8, r_tollbarref22_pathsMay_9, r_tollbarref22_pathsMay_10, r_tollbarref22_pathsMay_11, r_tollbarref22_pathsMay_12, r_tollbarref22_pathsMay_13, hlt, hp, hlj, a]
      exact h2 (by rw [List.all_cons, show vertOk p.2.1[j] = false by simp [vertOk]; omega, Bool.false_and])
    by_cases b : 16 ≤ p.2.1[j]
    · simp -implicitDefEqProofs [r_tollbarref22_pathsMay_0, r_tollbarref22_pathsMay_1, r_tollbarref22_pathsMay_2, r_tollbarref22_pathsMay_3, r_tollbarref22_pathsMay_4, r_tollbarref22_pathsMay_5, r_tollbarref22_pathsMay_6, r_tollbarref22_pathsMay_7, r_tollbarref22_pathsMay_8, r_tollbarref22_pathsMay_9, r_tollbarref22_pathsMay_10, r_tollbarref22_pathsMay_11, r_tollbarref22_pathsMay_12, r_tollbarref22_pathsMay_13, hlt, hp, hlj, a, b]
      exact h2 (by rw [List.all_cons, show vertOk p.2.1[j] = false by simp [vertOk]; omega, Bool.false_and])
    simp -implicitDefEqProofs [r_tollbarref22_pathsMay_0, r_tollbarref22_pathsMay_1, r_tollbarref22_pathsMay_2, r_tollbarref22_pathsMay_3, r_tollbarref22_pathsMay_4, r_tollbarref22_pathsMay_5, r_tollbarref22_pathsMay_6, r_tollbarref22_pathsMay_7, r_tollbarref22_pathsMay_8, r_tollbarref22_pathsMay_9, r_tollbarref22_pathsMay_10, r_tollbarref22_pathsMay_11, r_tollbarref22_pathsMay_12, r_tollbarref22_pathsMay_13, hlt, hp, hlj, a, b, hw]
    have hv : vertOk p.2.1[j] = true := by simp [vertOk]; omega
    exact ih (j + 1) (by omega) (fun h => h1 (by rw [List.all_cons, hv, h]; rfl)) (fun h => h2 (by rw [List.all_cons, hv, h]; rfl))
theorem l_pathsMay_1 (ps : List Path) (hlen : ps.length ≤ 16) {h : NHeap} {Q : Out → NEnv → NHeap → Prop} : ∀ k i, i + k = ps.length → ((ps.drop i).all pathOk = true → ∀ e, Q (.ex 0) e h) → ((ps.drop i).all pathOk = false → Q .ret [(2, bV false)] h) →
    NWp F (.loop l_tollbarref22_pathsMay_1) [(0, .fsl shPath ps), (3, iV i)] h Q := by
  intro k
  induction k with
  | zero =>
    intro i hi h1 h2
    obtain rfl : i = ps.length := by omega
    refine NWp.loopE l_tollbarref22_pathsMay_1.eq_1 ?_
    simp -implicitDefEqProofs [r_tollbarref22_pathsMay_0, r_tollbarref22_pathsMay_1, r_tollbarref22_pathsMay_2, r_tollbarref22_pathsMay_3, r_tollbarref22_pathsMay_4, r_tollbarref22_pathsMay_5, r_tollbarref22_pathsMay_6, r_tollbarref22_pathsMay_7, r_tollbarref22_pathsMay_8, r_tollbarref22_pathsMay_9, r_tollbarref22_pathsMay_10, r_tollbarref22_pathsMay_11, r_tollbarref22_pathsMay_12, r_tollbarref22_pathsMay_13]
    exact h1 (by simp) _
  | succ k ih =>
    intro i hi h1 h2
    have hlt : i < ps.length := by omega
    have hw := wrap_succ (n := i) (by omega)
    rw [List.drop_eq_getElem_cons hlt] at h1 h2
    generalize hp : ps[i] = p at h1 h2
    have no : pathOk p = false → Q .ret [(2, bV false)] h := fun e => h2 (by rw [List.all_cons, e]; rfl)
    refine NWp.loopE l_tollbarref22_pathsMay_1.eq_1 ?_
    by_cases a : p.1 < 1
    · simp -implicitDefEqProofs [r_tollbarref22_pathsMay_0, r_tollbarref22_pathsMay_1, r_tollbarref22_pathsMay_2, r_tollbarref22_pathsMay_3, r_tollbarref22_pathsMay_4, r_tollbarref22_pathsMay_5, r_tollbarref22_pathsMay_6, r_tollbarref22_pathsMay_7, r_tollbarref22_pathsMay_8, r_tollbarref22_pathsMay_9, r_tollbarref22_pathsMay_10, r_tollbarref22_pathsMay_11, r_tollbarref22_pathsMay_12, r_tollbarref22_pathsMay_13, hlt, hp, a]
      exact no (by simp [pathOk]; omega)
    by_cases b : 4611686018427387904 < p.1
    · simp -implicitDefEqProofs [r_tollbarref22_pathsMay_0, r_tollbarref22_pathsMay_1, r_tollbarref22_pathsMay_2, r_tollbarref22_pathsMay_3, r_tollbarref22_pathsMay_4, r_tollbarref22_pathsMay_5, r_tollbarref22_pathsMay_6, r_tollbarref22_pathsMay_7, r_tollbarref22_pathsMay_8, r_tollbarref22_pathsMay_9, r_tollbarref22_pathsMay_10, r_tollbarref22_pathsMay_11, r_tollbarref22_pathsMay_12, r_tollbarref22_pathsMay_13, hlt, hp, a, b]
      exact no (by simp [pathOk]; omega)
    by_cases c : p.2.1.length < 1
    · simp -implicitDefEqProofs [r_tollbarref22_pathsMay_0, r_tollbarref22_pathsMay_1, r_tollbarref22_pathsMay_2, r_tollbarref22_pathsMay_3, r_tollbarref22_pathsMay_4, r_tollbarref22_pathsMay_5, r_tollbarref22_pathsMay_6, r_tollbarref22_pathsMay_7, r_tollbarref22_pathsMay_8, r_tollbarref22_pathsMay_9, r_tollbarref22_pathsMay_10, r_tollbarref22_pathsMay_11, r_tollbarref22_pathsMay_12, r_tollbarref22_pathsMay_13, hlt, hp, a, b, (show (p.2.1.length : Int) < 1 by omega)]
      exact no (by simp [pathOk]; omega)
    by_cases d : 16 < p.2.1.length
    · simp -implicitDefEqProofs [r_tollbarref22_pathsMay_0, r_tollbarref22_pathsMay_1, r_tollbarref22_pathsMay_2, r_tollbarref22_pathsMay_3, r_tollbarref22_pathsMay_4, r_tollbarref22_pathsMay_5, r_tollbarref22_pathsMay_6, r_tollbarref22_pathsMay_7, r_tollbarref22_pathsMay_8, r_tollbarref22_pathsMay_9, r_tollbarref22_pathsMay_10, r_tollbarref22_pathsMay_11, r_tollbarref22_pathsMay_12, r_tollbarref22_pathsMay_13, hlt, hp, a, b, (show ¬ (p.2.1.length : Int) < 1 by omega), (show (16 : Int) < p.2.1.length by omega)]
      exact no (by simp [pathOk]; omega)
    simp -implicitDefEqProofs [r_tollbarref22_pathsMay_0, r_tollbarref22_pathsMay_1, r_tollbarref22_pathsMay_2, r_tollbarref22_pathsMay_3, r_tollbarref22_pathsMay_4, r_tollbarref22_pathsMay_5, r_tollbarref22_pathsMay_6, r_tollbarref22_pathsMay_7, r_tollbarref22_pathsMay_8, r_tollbarref22_pathsMay_9, r_tollbarref22_pathsMay_10, r_tollbarref22_pathsMay_11, r_tollbarref22_pathsMay_12, r_tollbarref22_pathsMay_13, hlt, hp, a, b, (show ¬ (p.2.1.length : Int) < 1 by omega), (show ¬ (16 : Int) < p.2.1.length by omega)]
    have hpo : pathOk p = p.2.1.all vertOk := by
      simp only [pathOk]
      rw [decide_eq_true (by omega), Bool.true_and]
    refine l_pathsMay_0 ps i hlt p hp (by omega) p.2.1.length 0 (by omega) (fun h j => ?_) (fun h => ?_)
    · rw [List.drop_zero, ← hpo] at h
      simp -implicitDefEqProofs [r_tollbarref22_pathsMay_0, r_tollbarref22_pathsMay_1, r_tollbarref22_pathsMay_2, r_tollbarref22_pathsMay_3, r_tollbarref22_pathsMay_4, r_tollbarref22_pathsMay_5, r_tollbarref22_pathsMay_6, r_tollbarref22_pathsMay_7, r_tollbarref22_pathsMay_8, r_tollbarref22_pathsMay_9, r_tollbarref22_pathsMay_10, r_tollbarref22_pathsMay_11, r_tollbarref22_pathsMay_12, r_tollbarref22_pathsMay_13, hw]
      exact ih (i + 1) (by omega) (fun h' => h1 (by rw [List.all_cons, h, h']; rfl)) (fun h' => h2 (by rw [List.all_cons, h, h']; rfl))
    · rw [List.drop_zero, ← hpo] at h
      simp -implicitDefEqProofs [r_tollbarref22_pathsMay_0, r_tollbarref22_pathsMay_1, r_tollbarref22_pathsMay_2, r_tollbarref22_pathsMay_3, r_tollbarref22_pathsMay_4, r_tollbarref22_pathsMay_5, r_tollbarref22_pathsMay_6, r_tollbarref22_pathsMay_7, r_tollbarref22_pathsMay_8, r_tollbarref22_pathsMay_9, r_tollbarref22_pathsMay_10, r_tollbarref22_pathsMay_11, r_tollbarref22_pathsMay_12, r_tollbarref22_pathsMay_13]
      exact no h
theorem p_pathsMay (ps : List Path) : Pure F n_tollbarref22_pathsMay [.fsl shPath ps] (bV (pathsOk ps)) := by
  refine PureP.start (m := c_tollbarref22_pathsMay) (by kernel_rfl) rfl ?_
  by_cases a : ps.length < 1
  · simp -implicitDefEqProofs [c_tollbarref22_pathsMay, r_tollbarref22_pathsMay_0, r_tollbarref22_pathsMay_1, r_tollbarref22_pathsMay_2, r_tollbarref22_pathsMay_3, r_tollbarref22_pathsMay_4, r_tollbarref22_pathsMay_5, r_tollbarref22_pathsMay_6, r_tollbarref22_pathsMay_7, r_tollbarref22_pathsMay_8, r_tollbarref22_pathsMay_9, r_tollbarref22_pathsMay_10, r_tollbarref22_pathsMay_11, r_tollbarref22_pathsMay_12, r_tollbarref22_pathsMay_13, (show (ps.length : Int) < 1 by omega), pathsOk]
    omega
  by_cases b : 16 < ps.length
  · simp -implicitDefEqProofs [c_tollbarref22_pathsMay, r_tollbarref22_pathsMay_0, r_tollbarref22_pathsMay_1, r_tollbarref22_pathsMay_2, r_tollbarref22_pathsMay_3, r_tollbarref22_pathsMay_4, r_tollbarref22_pathsMay_5, r_tollbarref22_pathsMay_6, r_tollbarref22_pathsMay_7, r_tollbarref22_pathsMay_8, r_tollbarref22_pathsMay_9, r_tollbarref22_pathsMay_10, r_tollbarref22_pathsMay_11, r_tollbarref22_pathsMay_12, r_tollbarref22_pathsMay_13, (show ¬ (ps.length : Int) < 1 by omega), (show (16 : Int) < ps.length by omega), pathsOk]
    omega
  simp -implicitDefEqProofs [c_tollbarref22_pathsMay, r_tollbarref22_pathsMay_0, r_tollbarref22_pathsMay_1, r_tollbarref22_pathsMay_2, r_tollbarref22_pathsMay_3, r_tollbarref22_pathsMay_4, r_tollbarref22_pathsMay_5, r_tollbarref22_pathsMay_6, r_tollbarref22_pathsMay_7, r_tollbarref22_pathsMay_8, r_tollbarref22_pathsMay_9, r_tollbarref22_pathsMay_10, r_tollbarref22_pathsMay_11, r_tollbarref22_pathsMay_12, r_tollbarref22_pathsMay_13, (show ¬ (ps.length : Int) < 1 by omega), (show ¬ (16 : Int) < ps.length by omega)]
  have hm : pathsOk ps = ps.all pathOk := by
    simp [pathsOk, show 1 ≤ ps.length by omega, show ps.length ≤ 16 by omega]
  refine l_pathsMay_1 ps (by omega) ps.length 0 (by omega) (fun h e => ?_) (fun h => ?_)
  · rw [List.drop_zero] at h
    simp -implicitDefEqProofs [c_tollbarref22_pathsMay, r_tollbarref22_pathsMay_0, r_tollbarref22_pathsMay_1, r_tollbarref22_pathsMay_2, r_tollbarref22_pathsMay_3, r_tollbarref22_pathsMay_4, r_tollbarref22_pathsMay_5, r_tollbarref22_pathsMay_6, r_tollbarref22_pathsMay_7, r_tollbarref22_pathsMay_8, r_tollbarref22_pathsMay_9, r_tollbarref22_pathsMay_10, r_tollbarref22_pathsMay_11, r_tollbarref22_pathsMay_12, r_tollbarref22_pathsMay_13, hm, h]
  · rw [List.drop_zero] at h
    simp -implicitDefEqProofs [c_tollbarref22_pathsMay, r_tollbarref22_pathsMay_0, r_tollbarref22_pathsMay_1, r_tollbarref22_pathsMay_2, r_tollbarref22_pathsMay_3, r_tollbarref22_pathsMay_4, r_tollbarref22_pathsMay_5, r_tollbarref22_pathsMay_6, r_tollbarref22_pathsMay_7, r_tollbarref22_pathsMay_8, r_tollbarref22_pathsMay_9, r_tollbarref22_pathsMay_10, r_tollbarref22_pathsMay_11, r_tollbarref22_pathsMay_12, r_tollbarref22_pathsMay_13, hm, h]
end Go.Proofs.Ytnjmdkecpadehaa
