import Derived.Test.YtnjmdkecpadehaaU7
set_option linter.all false
set_option linter.unusedSimpArgs false
namespace Go.Proofs.Ytnjmdkecpadehaa
open M
instance : DecidableEq Path := inferInstance
instance : DecidableEq (List Path) := inferInstance
instance : DecidableEq (Int × Int × Unit) := inferInstance
set_option synthInstance.maxSize 1000 in
instance : DecidableEq Piece := inferInstance
instance : DecidableEq (List Piece) := inferInstance
set_option synthInstance.maxSize 1000 in
instance : DecidableEq Reply := inferInstance
theorem p_SpanMay (f t : Int) : Pure F n_tollbarref1_SpanMay [.agg [iV f, iV t]] (bV (spanMay f t)) := by
  refine PureP.start (m := c_tollbarref1_SpanMay) (by kernel_rfl) rfl ?_
  simp -implicitDefEqProofs [c_tollbarref1_SpanMay, r_tollbarref1_SpanMay_0, r_tollbarref1_SpanMay_1, spanMay]
  repeat' (first | (with_reducible refine ngdT_dec (fun _ => ?_) (fun _ => ?_)) | (with_reducible refine ngdF_dec (fun _ => ?_) (fun _ => ?_)) | (with_reducible refine ncond_dec (fun _ => ?_) (fun _ => ?_)) | (with_reducible refine ndgdT_dec (fun _ => ?_) (fun _ => ?_)) | (with_reducible refine ndgdF_dec (fun _ => ?_) (fun _ => ?_)) | (with_reducible refine ngdT_bool (fun _ => ?_) (fun _ => ?_)) | (with_reducible refine ngdF_bool (fun _ => ?_) (fun _ => ?_)) | (with_reducible refine ncond_bool (fun _ => ?_) (fun _ => ?_)) | (with_reducible refine ndgdT_bool (fun _ => ?_) (fun _ => ?_)) | (with_reducible refine ndgdF_bool (fun _ => ?_) (fun _ => ?_)) | simp -implicitDefEqProofs [*])
theorem p_Rate (x : Int) : Pure F n_tollbarref1_Rate [iV x] (bV (rateIs x)) := by
  refine PureP.start (m := c_tollbarref1_Rate) (by kernel_rfl) rfl ?_
  by_cases a : 0 ≤ x <;> by_cases b : x ≤ 4611686018427387904 <;> simp -implicitDefEqProofs [c_tollbarref1_Rate, r_tollbarref1_Rate_0, r_tollbarref1_Rate_1, rateIs, a, b]
theorem l_SameInts (a b : List Int) (hab : a.length = b.length) (hsz : a.length < 9223372036854775807) {h : NHeap} {Q : Out → NEnv → NHeap → Prop} : ∀ k i, i + k = a.length → (a.drop i = b.drop i → ∀ e, Q (.ex 0) e h) → (a.drop i ≠ b.drop i → Q .ret [(4, bV false)] h) →
    NWp F (.loop l_tollbarref19_SameInts_0) [(0, .fsl shI a), (1, .fsl shI b), (5, iV i)] h Q := by
  intro k
  induction k with
  | zero =>
    intro i hi h1 h2
    obtain rfl : i = a.length := by omega
    refine NWp.loopE l_tollbarref19_SameInts_0.eq_1 ?_
    simp -implicitDefEqProofs [r_tollbarref19_SameInts_0, r_tollbarref19_SameInts_1, r_tollbarref19_SameInts_2, r_tollbarref19_SameInts_3, r_tollbarref19_SameInts_4, r_tollbarref19_SameInts_5, r_tollbarref19_SameInts_6, r_tollbarref19_SameInts_7, r_tollbarref19_SameInts_8]
    exact h1 (by rw [List.drop_length, hab, List.drop_length]) _
  | succ k ih =>
    intro i hi h1 h2
    have hlt : i < a.length := by omega
    have hlb : i < b.length := by omega
    have hw := wrap_succ (n := i) (by omega)
    rw [List.drop_eq_getElem_cons hlt, List.drop_eq_getElem_cons hlb] at h1 h2
    refine NWp.loopE l_tollbarref19_SameInts_0.eq_1 ?_
    by_cases c : a[i] = b[i]
    · simp -implicitDefEqProofs [r_tollbarref19_SameInts_0, r_tollbarref19_SameInts_1, r_tollbarref19_SameInts_2, r_tollbarref19_SameInts_3, r_tollbarref19_SameInts_4, r_tollbarref19_SameInts_5, r_tollbarref19_SameInts_6, r_tollbarref19_SameInts_7, r_tollbarref19_SameInts_8, hlt, hlb, c, hw]
      exact ih (i + 1) (by omega) (fun h => h1 (by rw [c, h])) (fun h => h2 (fun e => h (List.cons.inj e).2))
    · simp -implicitDefEqProofs [r_tollbarref19_SameInts_0, r_tollbarref19_SameInts_1, r_tollbarref19_SameInts_2, r_tollbarref19_SameInts_3, r_tollbarref19_SameInts_4, r_tollbarref19_SameInts_5, r_tollbarref19_SameInts_6, r_tollbarref19_SameInts_7, r_tollbarref19_SameInts_8, hlt, hlb, c]
      exact h2 (by intro e; exact c (List.cons.inj e).1)
theorem p_SameInts (a b : List Int) (hsz : a.length < 9223372036854775807) : Pure F n_tollbarref19_SameInts [.fsl shI a, .fsl shI b] (bV (decide (a = b))) := by
  refine PureP.start (m := c_tollbarref19_SameInts) (by kernel_rfl) rfl ?_
  by_cases hab : a.length = b.length
  · simp -implicitDefEqProofs [c_tollbarref19_SameInts, r_tollbarref19_SameInts_0, r_tollbarref19_SameInts_1, r_tollbarref19_SameInts_2, r_tollbarref19_SameInts_3, r_tollbarref19_SameInts_4, r_tollbarref19_SameInts_5, r_tollbarref19_SameInts_6, r_tollbarref19_SameInts_7, r_tollbarref19_SameInts_8, hab]
    refine l_SameInts a b hab hsz a.length 0 (by omega) (fun h e => ?_) (fun h => ?_)
    · simp only [List.drop_zero] at h
      simp -implicitDefEqProofs [c_tollbarref19_SameInts, r_tollbarref19_SameInts_0, r_tollbarref19_SameInts_1, r_tollbarref19_SameInts_2, r_tollbarref19_SameInts_3, r_tollbarref19_SameInts_4, r_tollbarref19_SameInts_5, r_tollbarref19_SameInts_6, r_tollbarref19_SameInts_7, r_tollbarref19_SameInts_8, h]
    · simp only [List.drop_zero] at h
      simp -implicitDefEqProofs [c_tollbarref19_SameInts, r_tollbarref19_SameInts_0, r_tollbarref19_SameInts_1, r_tollbarref19_SameInts_2, r_tollbarref19_SameInts_3, r_tollbarref19_SameInts_4, r_tollbarref19_SameInts_5, r_tollbarref19_SameInts_6, r_tollbarref19_SameInts_7, r_tollbarref19_SameInts_8, h]
  · have hne : ¬ a = b := fun e => hab (by rw [e])
    simp -implicitDefEqProofs [c_tollbarref19_SameInts, r_tollbarref19_SameInts_0, r_tollbarref19_SameInts_1, r_tollbarref19_SameInts_2, r_tollbarref19_SameInts_3, r_tollbarref19_SameInts_4, r_tollbarref19_SameInts_5, r_tollbarref19_SameInts_6, r_tollbarref19_SameInts_7, r_tollbarref19_SameInts_8, hab, hne]
theorem l_SamePaths_0 (a b : List Path) (i : Nat) (p q : Path) (hlt : i < a.length) (hlb : i < b.length) (hp : a[i] = p) (hq : b[i] = q) (hpq : p.2.1.length = q.2.1.length) (hsz : p.2.1.length < 9223372036854775807) {h : NHeap} {Q : Out → NEnv → NHeap → Prop} : ∀ k j, j + k = p.2.1.length → (p.2.1.drop j = q.2.1.drop j → Q (.ex 2) [(0, .fsl shPath a), (1, .fsl shPath b), (5, iV i), (6, iV (p.2.1.length : Int)), (51, bV false)] h) → (p.2.1.drop j ≠ q.2.1.drop j → Q .ret [(4, bV false)] h) →
    NWp F (.loop l_tollbarref19_SamePaths_0) [(0, .fsl shPath a), (1, .fsl shPath b), (5, iV i), (6, iV j)] h Q := by
  intro k
  induction k with
  | zero =>
    intro j hj h1 h2
    obtain rfl : j = p.2.1.length := by omega
    refine NWp.loopE l_tollbarref19_SamePaths_0.eq_1 ?_
    simp -implicitDefEqProofs [r_tollbarref19_SamePaths_0, r_tollbarref19_SamePaths_1, r_tollbarref19_SamePaths_2, r_tollbarref19_SamePaths_3, r_tollbarref19_SamePaths_4, r_tollbarref19_SamePaths_5, r_tollbarref19_SamePaths_6, r_tollbarref19_SamePaths_7, r_tollbarref19_SamePaths_8, r_tollbarref19_SamePaths_9, r_tollbarref19_SamePaths_10, r_tollbarref19_SamePaths_11, r_tollbarref19_SamePaths_12, r_tollbarref19_SamePaths_13, hlt, hlb, hp, hq]
    exact h1 (by rw [List.drop_length, hpq, List.drop_length])
  | succ k ih =>
    intro j hj h1 h2
    have hlj : j < p.2.1.length := by omega
    have hlk : j < q.2.1.length := by omega
    have hw := wrap_succ (n := j) (by omega)
    rw [List.drop_eq_getElem_cons hlj, List.drop_eq_getElem_cons hlk] at h1 h2
    refine NWp.loopE l_tollbarref19_SamePaths_0.eq_1 ?_
    by_cases c : p.2.1[j] = q.2.1[j]
    · simp -implicitDefEqProofs [r_tollbarref19_SamePaths_0, r_tollbarref19_SamePaths_1, r_tollbarref19_SamePaths_2, r_tollbarref19_SamePaths_3, r_tollbarref19_SamePaths_4, r_tollbarref19_SamePaths_5, r_tollbarref19_SamePaths_6, r_tollbarref19_SamePaths_7, r_tollbarref19_SamePaths_8, r_tollbarref19_SamePaths_9, r_tollbarref19_SamePaths_10, r_tollbarref19_SamePaths_11, r_tollbarref19_SamePaths_12, r_tollbarref19_SamePaths_13, hlt, hlb, hp, hq, hlj, hlk, c, hw]
      exact ih (j + 1) (by omega) (fun h => h1 (by rw [c, h])) (fun h => h2 (fun e => h (List.cons.inj e).2))
    · simp -implicitDefEqProofs [r_tollbarref19_SamePaths_0, r_tollbarref19_SamePaths_1, r_tollbarref19_SamePaths_2, r_tollbarref19_SamePaths_3, r_tollbarref19_SamePaths_4, r_tollbarref19_SamePaths_5, r_tollbarref19_SamePaths_6, r_tollbarref19_SamePaths_7, r_tollbarref19_SamePaths_8, r_tollbarref19_SamePaths_9, r_tollbarref19_SamePaths_10, r_tollbarref19_SamePaths_11, r_tollbarref19_SamePaths_12, r_tollbarref19_SamePaths_13, hlt, hlb, hp, hq, hlj, hlk, c]
      exact h2 (by intro e; exact c (List.cons.inj e).1)
theorem l_SamePaths_1 (a b : List Path) (hab : a.length = b.length) (hsz : a.length < 9223372036854775807) (hsz2 : ∀ p ∈ a, p.2.1.length < 9223372036854775807) {h : NHeap} {Q : Out → NEnv → NHeap → Prop} : ∀ k i, i + k = a.length → (a.drop i = b.drop i → ∀ e, Q (.ex 0) e h) → (a.drop i ≠ b.drop i → Q .ret [(4, bV false)] h) →
    NWp F (.loop l_tollbarref19_SamePaths_1) [(0, .fsl shPath a), (1, .fsl shPath b), (5, iV i)] h Q := by
  intro k
  induction k with
  | zero =>
    intro i hi h1 h2
    obtain rfl : i = a.length := by omega
    refine NWp.loopE l_tollbarref19_SamePaths_1.eq_1 ?_
    simp -implicitDefEqProofs [r_tollbarref19_SamePaths_0, r_tollbarref19_SamePaths_1, r_tollbarref19_SamePaths_2, r_tollbarref19_SamePaths_3, r_tollbarref19_SamePaths_4, r_tollbarref19_SamePaths_5, r_tollbarref19_SamePaths_6, r_tollbarref19_SamePaths_7, r_tollbarref19_SamePaths_8, r_tollbarref19_SamePaths_9, r_tollbarref19_SamePaths_10, r_tollbarref19_SamePaths_11, r_tollbarref19_SamePaths_12, r_tollbarref19_SamePaths_13]
    exact h1 (by rw [List.drop_length, hab, List.drop_length]) _
  | succ k ih =>
    intro i hi h1 h2
    have hlt : i < a.length := by omega
    have hlb : i < b.length := by omega
    have hw := wrap_succ (n := i) (by omega)
    rw [List.drop_eq_getElem_cons hlt, List.drop_eq_getElem_cons hlb] at h1 h2
    generalize hp : a[i] = p at h1 h2
    generalize hq : b[i] = q at h1 h2
    have hpm := hsz2 p (by rw [← hp]; exact List.getElem_mem hlt)
    have hpq : p = q ↔ p.1 = q.1 ∧ p.2.1 = q.2.1 := ⟨fun e => by rw [e]; exact ⟨rfl, rfl⟩, fun ⟨e1, e2⟩ => by
      obtain ⟨x, y, ⟨⟩⟩ := p; obtain ⟨x', y', ⟨⟩⟩ := q
      simp only at e1 e2
      subst e1 e2; rfl⟩
    have hno : p ≠ q → Q .ret [(4, bV false)] h := fun hne => h2 (by intro e; exact hne (List.cons.inj e).1)
    refine NWp.loopE l_tollbarref19_SamePaths_1.eq_1 ?_
    by_cases c : p.1 = q.1
    · by_cases d : p.2.1.length = q.2.1.length
      · simp -implicitDefEqProofs [r_tollbarref19_SamePaths_0, r_tollbarref19_SamePaths_1, r_tollbarref19_SamePaths_2, r_tollbarref19_SamePaths_3, r_tollbarref19_SamePaths_4, r_tollbarref19_SamePaths_5, r_tollbarref19_SamePaths_6, r_tollbarref19_SamePaths_7, r_tollbarref19_SamePaths_8, r_tollbarref19_SamePaths_9, r_tollbarref19_SamePaths_10, r_tollbarref19_SamePaths_11, r_tollbarref19_SamePaths_12, r_tollbarref19_SamePaths_13, hlt, hlb, hp, hq, c, d]
        refine l_SamePaths_0 a b i p q hlt hlb hp hq d hpm p.2.1.length 0 (by omega) (fun e => ?_) (fun e => ?_)
        · simp only [List.drop_zero] at e
          have hpq' := hpq.2 ⟨c, e⟩
          simp -implicitDefEqProofs [r_tollbarref19_SamePaths_0, r_tollbarref19_SamePaths_1, r_tollbarref19_SamePaths_2, r_tollbarref19_SamePaths_3, r_tollbarref19_SamePaths_4, r_tollbarref19_SamePaths_5, r_tollbarref19_SamePaths_6, r_tollbarref19_SamePaths_7, r_tollbarref19_SamePaths_8, r_tollbarref19_SamePaths_9, r_tollbarref19_SamePaths_10, r_tollbarref19_SamePaths_11, r_tollbarref19_SamePaths_12, r_tollbarref19_SamePaths_13, hw]
          exact ih (i + 1) (by omega) (fun h => h1 (by rw [hpq', h])) (fun h => h2 (fun e => h (List.cons.inj e).2))
        · simp only [List.drop_zero] at e
          simp -implicitDefEqProofs [r_tollbarref19_SamePaths_0, r_tollbarref19_SamePaths_1, r_tollbarref19_SamePaths_2, r_tollbarref19_SamePaths_3, r_tollbarref19_SamePaths_4, r_tollbarref19_SamePaths_5, r_tollbarref19_SamePaths_6, r_tollbarref19_SamePaths_7, r_tollbarref19_SamePaths_8, r_tollbarref19_SamePaths_9, r_tollbarref19_SamePaths_10, r_tollbarref19_SamePaths_11, r_tollbarref19_SamePaths_12, r_tollbarref19_SamePaths_13]
          exact hno (fun e2 => e (hpq.1 e2).2)
      · simp -implicitDefEqProofs [r_tollbarref19_SamePaths_0, r_tollbarref19_SamePaths_1, r_tollbarref19_SamePaths_2, r_tollbarref19_SamePaths_3, r_tollbarref19_SamePaths_4, r_tollbarref19_SamePaths_5, r_tollbarref19_SamePaths_6, r_tollbarref19_SamePaths_7, r_tollbarref19_SamePaths_8, r_tollbarref19_SamePaths_9, r_tollbarref19_SamePaths_10, r_tollbarref19_SamePaths_11, r_tollbarref19_SamePaths_12, r_tollbarref19_SamePaths_13, hlt, hlb, hp, hq, c, d]
        exact hno (fun e2 => d (by rw [e2]))
    · simp -implicitDefEqProofs [r_tollbarref19_SamePaths_0, r_tollbarref19_SamePaths_1, r_tollbarref19_SamePaths_2, r_tollbarref19_SamePaths_3, r_tollbarref19_SamePaths_4, r_tollbarref19_SamePaths_5, r_tollbarref19_SamePaths_6, r_tollbarref19_SamePaths_7, r_tollbarref19_SamePaths_8, r_tollbarref19_SamePaths_9, r_tollbarref19_SamePaths_10, r_tollbarref19_SamePaths_11, r_tollbarref19_SamePaths_12, r_tollbarref19_SamePaths_13, hlt, hlb, hp, hq, c]
      exact hno (fun e2 => c (hpq.1 e2).1)
theorem p_SamePaths (a b : List Path) (hsz : a.length < 9223372036854775807) (hsz2 : ∀ p ∈ a, p.2.1.length < 9223372036854775807) : Pure F n_tollbarref19_SamePaths [.fsl shPath a, .fsl shPath b] (bV (decide (a = b))) := by
  refine PureP.start (m := c_tollbarref19_SamePaths) (by kernel_rfl) rfl ?_
  by_cases hab : a.length = b.length
  · simp -implicitDefEqProofs [c_tollbarref19_SamePaths, r_tollbarref19_SamePaths_0, r_tollbarref19_SamePaths_1, r_tollbarref19_SamePaths_2, r_tollbarref19_SamePaths_3, r_tollbarref19_SamePaths_4, r_tollbarref19_SamePaths_5, r_tollbarref19_SamePaths_6, r_tollbarref19_SamePaths_7, r_tollbarref19_SamePaths_8, r_tollbarref19_SamePaths_9, r_tollbarref19_SamePaths_10, r_tollbarref19_SamePaths_11, r_tollbarref19_SamePaths_12, r_tollbarref19_SamePaths_13, hab]
    refine l_SamePaths_1 a b hab hsz hsz2 a.length 0 (by omega) (fun h e => ?_) (fun h => ?_)
    · simp only [List.drop_zero] at h
      simp -implicitDefEqProofs [c_tollbarref19_SamePaths, r_tollbarref19_SamePaths_0, r_tollbarref19_SamePaths_1, r_tollbarref19_SamePaths_2, r_tollbarref19_SamePaths_3, r_tollbarref19_SamePaths_4, r_tollbarref19_SamePaths_5, r_tollbarref19_SamePaths_6, r_tollbarref19_SamePaths_7, r_tollbarref19_SamePaths_8, r_tollbarref19_SamePaths_9, r_tollbarref19_SamePaths_10, r_tollbarref19_SamePaths_11, r_tollbarref19_SamePaths_12, r_tollbarref19_SamePaths_13, h]
    · simp only [List.drop_zero] at h
      simp -implicitDefEqProofs [c_tollbarref19_SamePaths, r_tollbarref19_SamePaths_0, r_tollbarref19_SamePaths_1, r_tollbarref19_SamePaths_2, r_tollbarref19_SamePaths_3, r_tollbarref19_SamePaths_4, r_tollbarref19_SamePaths_5, r_tollbarref19_SamePaths_6, r_tollbarref19_SamePaths_7, r_tollbarref19_SamePaths_8, r_tollbarref19_SamePaths_9, r_tollbarref19_SamePaths_10, r_tollbarref19_SamePaths_11, r_tollbarref19_SamePaths_12, r_tollbarref19_SamePaths_13, h]
  · have hne : ¬ a = b := fun e => hab (by rw [e])
    simp -implicitDefEqProofs [c_tollbarref19_SamePaths, r_tollbarref19_SamePaths_0, r_tollbarref19_SamePaths_1, r_tollbarref19_SamePaths_2, r_tollbarref19_SamePaths_3, r_tollbarref19_SamePaths_4, r_tollbarref19_SamePaths_5, r_tollbarref19_SamePaths_6, r_tollbarref19_SamePaths_7, r_tollbarref19_SamePaths_8, r_tollbarref19_SamePaths_9, r_tollbarref19_SamePaths_10, r_tollbarref19_SamePaths_11, r_tollbarref19_SamePaths_12, r_tollbarref19_SamePaths_13, hab, hne]
theorem l_SamePieces (a b : List Piece) (hab : a.length = b.length) (hsz : a.length < 9223372036854775807) (hsz2 : ∀ p ∈ a, p.2.1.length < 9223372036854775807 ∧ ∀ w ∈ p.2.1, w.2.1.length < 9223372036854775807) {h : NHeap} {Q : Out → NEnv → NHeap → Prop} : ∀ k i, i + k = a.length → (a.drop i = b.drop i → ∀ e, Q (.ex 0) e h) → (a.drop i ≠ b.drop i → Q .ret [(4, bV false)] h) →
    NWp F (.loop l_tollbarref19_SamePieces_0) [(0, .fsl shPiece a), (1, .fsl shPiece b), (5, iV i)] h Q := by
  intro k
  induction k with
  | zero =>
    intro i hi h1 h2
    obtain rfl : i = a.length := by omega
    refine NWp.loopE l_tollbarref19_SamePieces_0.eq_1 ?_
    simp -implicitDefEqProofs [r_tollbarref19_SamePieces_0, r_tollbarref19_SamePieces_1, r_tollbarref19_SamePieces_2, r_tollbarref19_SamePieces_3, r_tollbarref19_SamePieces_4, r_tollbarref19_SamePieces_5, r_tollbarref19_SamePieces_6, r_tollbarref19_SamePieces_7, r_tollbarref19_SamePieces_8]
    exact h1 (by rw [List.drop_length, hab, List.drop_length]) _
  | succ k ih =>
    intro i hi h1 h2
    have hlt : i < a.length := by omega
    have hlb : i < b.length := by omega
    have hw := wrap_succ (n := i) (by omega)
    rw [List.drop_eq_getElem_cons hlt, List.drop_eq_getElem_cons hlb] at h1 h2
    generalize hp : a[i] = p at h1 h2
    generalize hq : b[i] = q at h1 h2
    have hpm := hsz2 p (by rw [← hp]; exact List.getElem_mem hlt)
    have hpq : p = q ↔ (p.1.1 = q.1.1 ∧ p.1.2.1 = q.1.2.1) ∧ p.2.1 = q.2.1 := ⟨fun e => by rw [e]; exact ⟨⟨rfl, rfl⟩, rfl⟩, fun ⟨⟨e1, e2⟩, e3⟩ => by
      obtain ⟨⟨x, y, ⟨⟩⟩, z, ⟨⟩⟩ := p; obtain ⟨⟨x', y', ⟨⟩⟩, z', ⟨⟩⟩ := q
      simp only at e1 e2 e3
      subst e1 e2 e3; rfl⟩
    have hno : p ≠ q → Q .ret [(4, bV false)] h := fun hne => h2 (by intro e; exact hne (List.cons.inj e).1)
    refine NWp.loopE l_tollbarref19_SamePieces_0.eq_1 ?_
    by_cases c : p.1.1 = q.1.1
    · by_cases d : p.1.2.1 = q.1.2.1
      · simp -implicitDefEqProofs [r_tollbarref19_SamePieces_0, r_tollbarref19_SamePieces_1, r_tollbarref19_SamePieces_2, r_tollbarref19_SamePieces_3, r_tollbarref19_SamePieces_4, r_tollbarref19_SamePieces_5, r_tollbarref19_SamePieces_6, r_tollbarref19_SamePieces_7, r_tollbarref19_SamePieces_8, hlt, hlb, hp, hq, c, d]
        refine (p_SamePaths p.2.1 q.2.1 hpm.1 hpm.2).callD [] (by simp) rfl ?_
        by_cases e : p.2.1 = q.2.1
        · have hpq' := hpq.2 ⟨⟨c, d⟩, e⟩
          simp -implicitDefEqProofs [r_tollbarref19_SamePieces_0, r_tollbarref19_SamePieces_1, r_tollbarref19_SamePieces_2, r_tollbarref19_SamePieces_3, r_tollbarref19_SamePieces_4, r_tollbarref19_SamePieces_5, r_tollbarref19_SamePieces_6, r_tollbarref19_SamePieces_7, r_tollbarref19_SamePieces_8, hw, e]
          exact ih (i + 1) (by omega) (fun h => h1 (by rw [hpq', h])) (fun h => h2 (fun e => h (List.cons.inj e).2))
        · simp -implicitDefEqProofs [r_tollbarref19_SamePieces_0, r_tollbarref19_SamePieces_1, r_tollbarref19_SamePieces_2, r_tollbarref19_SamePieces_3, r_tollbarref19_SamePieces_4, r_tollbarref19_SamePieces_5, r_tollbarref19_SamePieces_6, r_tollbarref19_SamePieces_7, r_tollbarref19_SamePieces_8, hw, e]
          exact hno (fun e2 => e (hpq.1 e2).2)
      · simp -implicitDefEqProofs [r_tollbarref19_SamePieces_0, r_tollbarref19_SamePieces_1, r_tollbarref19_SamePieces_2, r_tollbarref19_SamePieces_3, r_tollbarref19_SamePieces_4, r_tollbarref19_SamePieces_5, r_tollbarref19_SamePieces_6, r_tollbarref19_SamePieces_7, r_tollbarref19_SamePieces_8, hlt, hlb, hp, hq, c, d]
        exact hno (fun e2 => d (hpq.1 e2).1.2)
    · simp -implicitDefEqProofs [r_tollbarref19_SamePieces_0, r_tollbarref19_SamePieces_1, r_tollbarref19_SamePieces_2, r_tollbarref19_SamePieces_3, r_tollbarref19_SamePieces_4, r_tollbarref19_SamePieces_5, r_tollbarref19_SamePieces_6, r_tollbarref19_SamePieces_7, r_tollbarref19_SamePieces_8, hlt, hlb, hp, hq, c]
      exact hno (fun e2 => c (hpq.1 e2).1.1)
theorem p_SamePieces (a b : List Piece) (hsz : a.length < 9223372036854775807) (hsz2 : ∀ p ∈ a, p.2.1.length < 9223372036854775807 ∧ ∀ w ∈ p.2.1, w.2.1.length < 9223372036854775807) : Pure F n_tollbarref19_SamePieces [.fsl shPiece a, .fsl shPiece b] (bV (decide (a = b))) := by
  refine PureP.start (m := c_tollbarref19_SamePieces) (by kernel_rfl) rfl ?_
  by_cases hab : a.length = b.length
  · simp -implicitDefEqProofs [c_tollbarref19_SamePieces, r_tollbarref19_SamePieces_0, r_tollbarref19_SamePieces_1, r_tollbarref19_SamePieces_2, r_tollbarref19_SamePieces_3, r_tollbarref19_SamePieces_4, r_tollbarref19_SamePieces_5, r_tollbarref19_SamePieces_6, r_tollbarref19_SamePieces_7, r_tollbarref19_SamePieces_8, hab]
    refine l_SamePieces a b hab hsz hsz2 a.length 0 (by omega) (fun h e => ?_) (fun h => ?_)
    · simp only [List.drop_zero] at h
      simp -implicitDefEqProofs [c_tollbarref19_SamePieces, r_tollbarref19_SamePieces_0, r_tollbarref19_SamePieces_1, r_tollbarref19_SamePieces_2, r_tollbarref19_SamePieces_3, r_tollbarref19_SamePieces_4, r_tollbarref19_SamePieces_5, r_tollbarref19_SamePieces_6, r_tollbarref19_SamePieces_7, r_tollbarref19_SamePieces_8, h]
    · simp only [List.drop_zero] at h
      simp -implicitDefEqProofs [c_tollbarref19_SamePieces, r_tollbarref19_SamePieces_0, r_tollbarref19_SamePieces_1, r_tollbarref19_SamePieces_2, r_tollbarref19_SamePieces_3, r_tollbarref19_SamePieces_4, r_tollbarref19_SamePieces_5, r_tollbarref19_SamePieces_6, r_tollbarref19_SamePieces_7, r_tollbarref19_SamePieces_8, h]
  · have hne : ¬ a = b := fun e => hab (by rw [e])
    simp -implicitDefEqProofs [c_tollbarref19_SamePieces, r_tollbarref19_SamePieces_0, r_tollbarref19_SamePieces_1, r_tollbarref19_SamePieces_2, r_tollbarref19_SamePieces_3, r_tollbarref19_SamePieces_4, r_tollbarref19_SamePieces_5, r_tollbarref19_SamePieces_6, r_tollbarref19_SamePieces_7, r_tollbarref19_SamePieces_8, hab, hne]
end Go.Proofs.Ytnjmdkecpadehaa
