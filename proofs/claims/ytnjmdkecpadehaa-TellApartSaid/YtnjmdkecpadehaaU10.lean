import Derived.Test.YtnjmdkecpadehaaU9
set_option linter.all false
set_option linter.unusedSimpArgs false
namespace Go.Proofs.Ytnjmdkecpadehaa
open M
def cutMay (c : Int × List Int × Unit) : Bool := decide (0 ≤ c.1 ∧ c.1 < 4096) && decide (1 ≤ c.2.1.length) && vertsOk (-1) c.2.1
theorem l_cutMay (c : Int × List Int × Unit) (hsz : c.2.1.length < 9223372036854775807) {nx : Nat} (hnx : 0 < nx) {Q : Out → NEnv → NHeap → Prop} : ∀ k i prev, i + k = c.2.1.length → (i = 0 → prev = -1) → (∀ j, i = j + 1 → c.2.1[j]? = some prev) → (vertsOk prev (c.2.1.drop i) = true → ∀ e, Q (.ex 0) e ⟨nx, [(0, ⟨[cellsN shCut c], 2, 2, true, none⟩)]⟩) → (vertsOk prev (c.2.1.drop i) = false → Q .ret [(2, bV false)] ⟨nx, [(0, ⟨[cellsN shCut c], 2, 2, true, none⟩)]⟩) →
    NWp F (.loop l_tollbarref22_cutMay_0) [(1, .ptr 0 0 0), (3, iV i)] ⟨nx, [(0, ⟨[cellsN shCut c], 2, 2, true, none⟩)]⟩ Q := by
  intro k
  induction k with
  | zero =>
    intro i prev hi _ _ h1 h2
    obtain rfl : i = c.2.1.length := by omega
    refine NWp.loopE l_tollbarref22_cutMay_0.eq_1 ?_
    simp -implicitDefEqProofs [r_tollbarref22_cutMay_0, r_tollbarref22_cutMay_1, r_tollbarref22_cutMay_2, r_tollbarref22_cutMay_3, r_tollbarref22_cutMay_4, r_tollbarref22_cutMay_5, r_tollbarref22_cutMay_6, r_tollbarref22_cutMay_7, r_tollbarref22_cutMay_8]
    exact h1 (by simp [vertsOk]) _
  | succ k ih =>
    intro i prev hi hp0 hp1 h1 h2
    have hlt : i < c.2.1.length := by omega
    have hw := wrap_succ (n := i) (by omega)
    rw [List.drop_eq_getElem_cons hlt, vertsOk] at h1 h2
    generalize hv : c.2.1[i] = v at h1 h2
    have next : NWp F (.loop l_tollbarref22_cutMay_0) [(1, .ptr 0 0 0), (3, iV ((i + 1 : Nat) : Int))] ⟨nx, [(0, ⟨[cellsN shCut c], 2, 2, true, none⟩)]⟩ Q ∨ ¬ (0 ≤ v ∧ v < 8 ∧ prev < v) := by
      by_cases d : 0 ≤ v ∧ v < 8 ∧ prev < v
      · left
        simp only [d, and_self, decide_true, Bool.true_and] at h1 h2
        exact ih (i + 1) v (by omega) (by omega) (fun j hj => by
          obtain rfl : i = j := by omega
          rw [List.getElem?_eq_getElem hlt, hv]) h1 h2
      · exact .inr d
    refine NWp.loopE l_tollbarref22_cutMay_0.eq_1 ?_
    by_cases a : v < 0
    · simp -implicitDefEqProofs [r_tollbarref22_cutMay_0, r_tollbarref22_cutMay_1, r_tollbarref22_cutMay_2, r_tollbarref22_cutMay_3, r_tollbarref22_cutMay_4, r_tollbarref22_cutMay_5, r_tollbarref22_cutMay_6, r_tollbarref22_cutMay_7, r_tollbarref22_cutMay_8, hlt, hv, hnx, a]
      exact h2 (by simp [show ¬ 0 ≤ v by omega])
    by_cases b : 8 ≤ v
    · simp -implicitDefEqProofs [r_tollbarref22_cutMay_0, r_tollbarref22_cutMay_1, r_tollbarref22_cutMay_2, r_tollbarref22_cutMay_3, r_tollbarref22_cutMay_4, r_tollbarref22_cutMay_5, r_tollbarref22_cutMay_6, r_tollbarref22_cutMay_7, r_tollbarref22_cutMay_8, hlt, hv, hnx, a, b]
      exact h2 (by simp [show ¬ v < 8 by omega])
    by_cases cc : 0 < i
    · obtain ⟨j, hij⟩ : ∃ j, i = j + 1 := ⟨i - 1, by omega⟩
      have hj : j < c.2.1.length := by omega
      have hpj := hp1 j hij
      rw [List.getElem?_eq_getElem hj] at hpj
      have hpj : c.2.1[j] = prev := by simpa using hpj
      have hw2 : IntKind.i64.wrap ((i : Int) - 1) = (j : Int) := by rw [wrap_id (by omega)]; omega
      by_cases d : v ≤ prev
      · simp -implicitDefEqProofs [r_tollbarref22_cutMay_0, r_tollbarref22_cutMay_1, r_tollbarref22_cutMay_2, r_tollbarref22_cutMay_3, r_tollbarref22_cutMay_4, r_tollbarref22_cutMay_5, r_tollbarref22_cutMay_6, r_tollbarref22_cutMay_7, r_tollbarref22_cutMay_8, hlt, hv, hnx, a, b, cc, hw2, hj, hpj, d]
        exact h2 (by simp [show ¬ prev < v by omega])
      · simp -implicitDefEqProofs [r_tollbarref22_cutMay_0, r_tollbarref22_cutMay_1, r_tollbarref22_cutMay_2, r_tollbarref22_cutMay_3, r_tollbarref22_cutMay_4, r_tollbarref22_cutMay_5, r_tollbarref22_cutMay_6, r_tollbarref22_cutMay_7, r_tollbarref22_cutMay_8, hlt, hv, hnx, a, b, cc, hw2, hj, hpj, d, hw]
        exact next.resolve_right (by omega)
    · obtain rfl : i = 0 := by omega
      have := hp0 rfl
      subst this
      simp -implicitDefEqProofs [r_tollbarref22_cutMay_0, r_tollbarref22_cutMay_1, r_tollbarref22_cutMay_2, r_tollbarref22_cutMay_3, r_tollbarref22_cutMay_4, r_tollbarref22_cutMay_5, r_tollbarref22_cutMay_6, r_tollbarref22_cutMay_7, r_tollbarref22_cutMay_8, hlt, hv, hnx, a, b, hw]
      exact next.resolve_right (by omega)
theorem p_cutMay (c : Int × List Int × Unit) (hsz : c.2.1.length < 9223372036854775807) : Pure F n_tollbarref22_cutMay [.agg (cellsN shCut c)] (bV (cutMay c)) := by
  refine PureP.start (m := c_tollbarref22_cutMay) (by kernel_rfl) rfl ?_
  by_cases a : c.1 < 0
  · simp -implicitDefEqProofs [c_tollbarref22_cutMay, r_tollbarref22_cutMay_0, r_tollbarref22_cutMay_1, r_tollbarref22_cutMay_2, r_tollbarref22_cutMay_3, r_tollbarref22_cutMay_4, r_tollbarref22_cutMay_5, r_tollbarref22_cutMay_6, r_tollbarref22_cutMay_7, r_tollbarref22_cutMay_8, a, cutMay]
    omega
  by_cases b : 4096 ≤ c.1
  · simp -implicitDefEqProofs [c_tollbarref22_cutMay, r_tollbarref22_cutMay_0, r_tollbarref22_cutMay_1, r_tollbarref22_cutMay_2, r_tollbarref22_cutMay_3, r_tollbarref22_cutMay_4, r_tollbarref22_cutMay_5, r_tollbarref22_cutMay_6, r_tollbarref22_cutMay_7, r_tollbarref22_cutMay_8, a, b, cutMay]
    omega
  by_cases d : c.2.1.length < 1
  · simp -implicitDefEqProofs [c_tollbarref22_cutMay, r_tollbarref22_cutMay_0, r_tollbarref22_cutMay_1, r_tollbarref22_cutMay_2, r_tollbarref22_cutMay_3, r_tollbarref22_cutMay_4, r_tollbarref22_cutMay_5, r_tollbarref22_cutMay_6, r_tollbarref22_cutMay_7, r_tollbarref22_cutMay_8, a, b, (show (c.2.1.length : Int) < 1 by omega), cutMay]
    omega
  simp -implicitDefEqProofs [c_tollbarref22_cutMay, r_tollbarref22_cutMay_0, r_tollbarref22_cutMay_1, r_tollbarref22_cutMay_2, r_tollbarref22_cutMay_3, r_tollbarref22_cutMay_4, r_tollbarref22_cutMay_5, r_tollbarref22_cutMay_6, r_tollbarref22_cutMay_7, r_tollbarref22_cutMay_8, a, b, (show ¬ (c.2.1.length : Int) < 1 by omega)]
  have hm : cutMay c = vertsOk (-1) c.2.1 := by
    simp only [cutMay]
    rw [decide_eq_true (by omega), decide_eq_true (by omega)]; rfl
  refine l_cutMay c hsz (by omega) c.2.1.length 0 (-1) (by omega) (fun _ => rfl) (fun j hj => by omega) (fun h e => ?_) (fun h => ?_)
  · rw [List.drop_zero] at h
    simp -implicitDefEqProofs [c_tollbarref22_cutMay, r_tollbarref22_cutMay_0, r_tollbarref22_cutMay_1, r_tollbarref22_cutMay_2, r_tollbarref22_cutMay_3, r_tollbarref22_cutMay_4, r_tollbarref22_cutMay_5, r_tollbarref22_cutMay_6, r_tollbarref22_cutMay_7, r_tollbarref22_cutMay_8, hm, h]
  · rw [List.drop_zero] at h
    simp -implicitDefEqProofs [c_tollbarref22_cutMay, r_tollbarref22_cutMay_0, r_tollbarref22_cutMay_1, r_tollbarref22_cutMay_2, r_tollbarref22_cutMay_3, r_tollbarref22_cutMay_4, r_tollbarref22_cutMay_5, r_tollbarref22_cutMay_6, r_tollbarref22_cutMay_7, r_tollbarref22_cutMay_8, hm, h]
def grantMay22 (r : Reply) : Bool := decide (1 ≤ rId r ∧ rId r ≤ 1048576 ∧ 1 ≤ rRate r ∧ rRate r ≤ 4611686018427387904 ∧ (rPieces r).length ≤ 8) && chained r.1.1 r.1.2.1 (rPieces r) && (rPieces r).all (fun p => pathsOk p.2.1)
theorem l_grantMay22 (r : Reply) (hlen : (rPieces r).length ≤ 8) {nx : Nat} {Q : Out → NEnv → NHeap → Prop} : ∀ k i, i + k = (rPieces r).length → (((rPieces r).drop i).all (fun p => pathsOk p.2.1) = true → ∀ e, Q (.ex 0) e ⟨nx, [(0, ⟨[cellsN shReply r], 10, 10, true, none⟩)]⟩) → (((rPieces r).drop i).all (fun p => pathsOk p.2.1) = false → Q .ret [(2, bV false)] ⟨nx, [(0, ⟨[cellsN shReply r], 10, 10, true, none⟩)]⟩) →
    NWp F (.loop l_tollbarref22_grantMay_0) [(1, .ptr 0 0 0), (3, iV i)] ⟨nx, [(0, ⟨[cellsN shReply r], 10, 10, true, none⟩)]⟩ Q := by
  intro k
  induction k with
  | zero =>
    intro i hi h1 h2
    have hi : i = r.2.2.2.2.2.2.2.1.length := by have : (rPieces r).length = r.2.2.2.2.2.2.2.1.length := rfl; omega
    subst hi
    refine NWp.loopE l_tollbarref22_grantMay_0.eq_1 ?_
    simp -implicitDefEqProofs [r_tollbarref22_grantMay_0, r_tollbarref22_grantMay_1, r_tollbarref22_grantMay_2, r_tollbarref22_grantMay_3, r_tollbarref22_grantMay_4, r_tollbarref22_grantMay_5, r_tollbarref22_grantMay_6, r_tollbarref22_grantMay_7, r_tollbarref22_grantMay_8]
    exact h1 (by simp) _
  | succ k ih =>
    intro i hi h1 h2
    have hlt : i < r.2.2.2.2.2.2.2.1.length := by have : (rPieces r).length = r.2.2.2.2.2.2.2.1.length := rfl; omega
    have hw := wrap_succ (n := i) (by omega)
    rw [List.drop_eq_getElem_cons hlt] at h1 h2
    generalize hp : r.2.2.2.2.2.2.2.1[i] = p at h1 h2
    refine NWp.loopE l_tollbarref22_grantMay_0.eq_1 ?_
    simp -implicitDefEqProofs [r_tollbarref22_grantMay_0, r_tollbarref22_grantMay_1, r_tollbarref22_grantMay_2, r_tollbarref22_grantMay_3, r_tollbarref22_grantMay_4, r_tollbarref22_grantMay_5, r_tollbarref22_grantMay_6, r_tollbarref22_grantMay_7, r_tollbarref22_grantMay_8, hlt, hp]
    refine (p_pathsMay p.2.1).call1 (by simp) ?_
    cases a : pathsOk p.2.1
    · simp -implicitDefEqProofs [r_tollbarref22_grantMay_0, r_tollbarref22_grantMay_1, r_tollbarref22_grantMay_2, r_tollbarref22_grantMay_3, r_tollbarref22_grantMay_4, r_tollbarref22_grantMay_5, r_tollbarref22_grantMay_6, r_tollbarref22_grantMay_7, r_tollbarref22_grantMay_8, a]
      exact h2 (by rw [List.all_cons, a]; rfl)
    · simp -implicitDefEqProofs [r_tollbarref22_grantMay_0, r_tollbarref22_grantMay_1, r_tollbarref22_grantMay_2, r_tollbarref22_grantMay_3, r_tollbarref22_grantMay_4, r_tollbarref22_grantMay_5, r_tollbarref22_grantMay_6, r_tollbarref22_grantMay_7, r_tollbarref22_grantMay_8, a, hw]
      exact ih (i + 1) (by omega) (fun h' => h1 (by rw [List.all_cons, a, h']; rfl)) (fun h' => h2 (by rw [List.all_cons, a, h']; rfl))
theorem p_grantMay22 (r : Reply) : Pure F n_tollbarref22_grantMay [.agg (cellsN shReply r)] (bV (grantMay22 r)) := by
  refine PureP.start (m := c_tollbarref22_grantMay) (by kernel_rfl) rfl ?_
  have no : ¬ (1 ≤ rId r ∧ rId r ≤ 1048576 ∧ 1 ≤ rRate r ∧ rRate r ≤ 4611686018427387904 ∧ (rPieces r).length ≤ 8) → grantMay22 r = false := fun h => by
    simp only [grantMay22]
    rw [decide_eq_false h]; rfl
  by_cases a1 : rId r < 1
  · simp -implicitDefEqProofs [c_tollbarref22_grantMay, r_tollbarref22_grantMay_0, r_tollbarref22_grantMay_1, r_tollbarref22_grantMay_2, r_tollbarref22_grantMay_3, r_tollbarref22_grantMay_4, r_tollbarref22_grantMay_5, r_tollbarref22_grantMay_6, r_tollbarref22_grantMay_7, r_tollbarref22_grantMay_8, a1, no (by omega)]
  by_cases a2 : 1048576 < rId r
  · simp -implicitDefEqProofs [c_tollbarref22_grantMay, r_tollbarref22_grantMay_0, r_tollbarref22_grantMay_1, r_tollbarref22_grantMay_2, r_tollbarref22_grantMay_3, r_tollbarref22_grantMay_4, r_tollbarref22_grantMay_5, r_tollbarref22_grantMay_6, r_tollbarref22_grantMay_7, r_tollbarref22_grantMay_8, a1, a2, no (by omega)]
  by_cases a3 : rRate r < 1
  · simp -implicitDefEqProofs [c_tollbarref22_grantMay, r_tollbarref22_grantMay_0, r_tollbarref22_grantMay_1, r_tollbarref22_grantMay_2, r_tollbarref22_grantMay_3, r_tollbarref22_grantMay_4, r_tollbarref22_grantMay_5, r_tollbarref22_grantMay_6, r_tollbarref22_grantMay_7, r_tollbarref22_grantMay_8, a1, a2, a3, no (by omega)]
  by_cases a4 : 4611686018427387904 < rRate r
  · simp -implicitDefEqProofs [c_tollbarref22_grantMay, r_tollbarref22_grantMay_0, r_tollbarref22_grantMay_1, r_tollbarref22_grantMay_2, r_tollbarref22_grantMay_3, r_tollbarref22_grantMay_4, r_tollbarref22_grantMay_5, r_tollbarref22_grantMay_6, r_tollbarref22_grantMay_7, r_tollbarref22_grantMay_8, a1, a2, a3, a4, no (by omega)]
  by_cases a5 : 8 < (rPieces r).length
  · simp -implicitDefEqProofs [c_tollbarref22_grantMay, r_tollbarref22_grantMay_0, r_tollbarref22_grantMay_1, r_tollbarref22_grantMay_2, r_tollbarref22_grantMay_3, r_tollbarref22_grantMay_4, r_tollbarref22_grantMay_5, r_tollbarref22_grantMay_6, r_tollbarref22_grantMay_7, r_tollbarref22_grantMay_8, a1, a2, a3, a4, (show (8 : Int) < (rPieces r).length by omega), no (by omega)]
  simp -implicitDefEqProofs [c_tollbarref22_grantMay, r_tollbarref22_grantMay_0, r_tollbarref22_grantMay_1, r_tollbarref22_grantMay_2, r_tollbarref22_grantMay_3, r_tollbarref22_grantMay_4, r_tollbarref22_grantMay_5, r_tollbarref22_grantMay_6, r_tollbarref22_grantMay_7, r_tollbarref22_grantMay_8, a1, a2, a3, a4, (show ¬ (8 : Int) < (rPieces r).length by omega)]
  refine (p_Chained r.1.1 r.1.2.1 (rPieces r) (by omega)).call1 (by simp) ?_
  have hm : grantMay22 r = (chained r.1.1 r.1.2.1 (rPieces r) && (rPieces r).all (fun p => pathsOk p.2.1)) := by
    simp only [grantMay22]
    rw [decide_eq_true (by omega), Bool.true_and]
  rw [hm]
  cases b : chained r.1.1 r.1.2.1 (rPieces r)
  · simp -implicitDefEqProofs [c_tollbarref22_grantMay, r_tollbarref22_grantMay_0, r_tollbarref22_grantMay_1, r_tollbarref22_grantMay_2, r_tollbarref22_grantMay_3, r_tollbarref22_grantMay_4, r_tollbarref22_grantMay_5, r_tollbarref22_grantMay_6, r_tollbarref22_grantMay_7, r_tollbarref22_grantMay_8, b]
  simp -implicitDefEqProofs [c_tollbarref22_grantMay, r_tollbarref22_grantMay_0, r_tollbarref22_grantMay_1, r_tollbarref22_grantMay_2, r_tollbarref22_grantMay_3, r_tollbarref22_grantMay_4, r_tollbarref22_grantMay_5, r_tollbarref22_grantMay_6, r_tollbarref22_grantMay_7, r_tollbarref22_grantMay_8, b]
  refine l_grantMay22 r (by omega) (rPieces r).length 0 (by omega) (fun h e => ?_) (fun h => ?_)
  · rw [List.drop_zero] at h
    simp -implicitDefEqProofs [c_tollbarref22_grantMay, r_tollbarref22_grantMay_0, r_tollbarref22_grantMay_1, r_tollbarref22_grantMay_2, r_tollbarref22_grantMay_3, r_tollbarref22_grantMay_4, r_tollbarref22_grantMay_5, r_tollbarref22_grantMay_6, r_tollbarref22_grantMay_7, r_tollbarref22_grantMay_8, h]
  · rw [List.drop_zero] at h
    simp -implicitDefEqProofs [c_tollbarref22_grantMay, r_tollbarref22_grantMay_0, r_tollbarref22_grantMay_1, r_tollbarref22_grantMay_2, r_tollbarref22_grantMay_3, r_tollbarref22_grantMay_4, r_tollbarref22_grantMay_5, r_tollbarref22_grantMay_6, r_tollbarref22_grantMay_7, r_tollbarref22_grantMay_8, h]
end Go.Proofs.Ytnjmdkecpadehaa
