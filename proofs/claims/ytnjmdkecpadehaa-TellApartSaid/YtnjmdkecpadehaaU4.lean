import Derived.Test.YtnjmdkecpadehaaU3
set_option linter.all false
set_option linter.unusedSimpArgs false
namespace Go.Proofs.Ytnjmdkecpadehaa
open M
abbrev rVerts (r : Reply) : List Int := r.2.1.2.1
def rateIs (x : Int) : Bool := decide (0 ≤ x ∧ x ≤ 4611686018427387904)
theorem p_rateIs (x : Int) : Pure F n_rate_Is [iV x] (bV (rateIs x)) := p_rate_Is x
def grantMay (r : Reply) : Bool := decide (1 ≤ rId r ∧ rId r ≤ 1048576 ∧ 0 < rRate r) && rateIs (rRate r) && spanMay r.1.1 r.1.2.1 && piecesMay r.1.1 r.1.2.1 (rPieces r)
def mayR (r : Reply) : Bool :=
  isPlain r && (if rKind r = 1 then decide (1 ≤ rCode r ∧ rCode r ≤ 9)
    else if rKind r = 2 then grantMay r
    else if rKind r = 3 then decide (0 ≤ r.2.1.1 ∧ r.2.1.1 < 4096) && vertsMay (rVerts r)
    else if rKind r = 5 then rateIs (rValue r)
    else decide (rKind r = 4))
theorem p_May (r : Reply) (hv : (rVerts r).length < 9223372036854775807) : Pure F n_tell_May [.agg (cellsN shReply r)] (bV (mayR r)) := by
  refine PureP.start (m := c_tell_May) (by kernel_rfl) rfl ?_
  simp -implicitDefEqProofs [c_tell_May, r_tell_May_0, r_tell_May_1]
  refine (p_isPlain r).call1 (by simp) ?_
  cases hp : isPlain r
  · simp -implicitDefEqProofs [c_tell_May, r_tell_May_0, r_tell_May_1, r_tell_May_2, r_tell_May_3, r_tell_May_4, r_tell_May_5, r_tell_May_6, r_tell_May_7, r_tell_May_8, r_tell_May_9, r_tell_May_10, r_tell_May_11, r_tell_May_12, mayR, hp]
  by_cases h1 : rKind r = 1
  · simp -implicitDefEqProofs [c_tell_May, r_tell_May_0, r_tell_May_1, r_tell_May_2, r_tell_May_3, r_tell_May_4, r_tell_May_5, r_tell_May_6, r_tell_May_7, r_tell_May_8, r_tell_May_9, r_tell_May_10, r_tell_May_11, r_tell_May_12, mayR, hp, h1]
    repeat' (first | (with_reducible refine ngdT_dec (fun _ => ?_) (fun _ => ?_)) | (with_reducible refine ngdF_dec (fun _ => ?_) (fun _ => ?_)) | (with_reducible refine ncond_dec (fun _ => ?_) (fun _ => ?_)) | (with_reducible refine ndgdT_dec (fun _ => ?_) (fun _ => ?_)) | (with_reducible refine ndgdF_dec (fun _ => ?_) (fun _ => ?_)) | (with_reducible refine ngdT_bool (fun _ => ?_) (fun _ => ?_)) | (with_reducible refine ngdF_bool (fun _ => ?_) (fun _ => ?_)) | (with_reducible refine ncond_bool (fun _ => ?_) (fun _ => ?_)) | (with_reducible refine ndgdT_bool (fun _ => ?_) (fun _ => ?_)) | (with_reducible refine ndgdF_bool (fun _ => ?_) (fun _ => ?_)) | simp -implicitDefEqProofs [*])
  by_cases h2 : rKind r = 2
  · simp -implicitDefEqProofs [c_tell_May, r_tell_May_0, r_tell_May_1, r_tell_May_2, r_tell_May_3, r_tell_May_4, r_tell_May_5, r_tell_May_6, r_tell_May_7, r_tell_May_8, r_tell_May_9, r_tell_May_10, r_tell_May_11, r_tell_May_12, mayR, hp, h2, grantMay]
    by_cases a1 : 1 ≤ rId r
    · by_cases a2 : rId r ≤ 1048576
      · by_cases a3 : 0 < rRate r
        · simp -implicitDefEqProofs [a1, a2, a3]
          refine (p_rateIs (rRate r)).call1 (by simp) ?_
          cases a4 : rateIs (rRate r)
          · simp -implicitDefEqProofs [a1, a2, a3, a4]
          · simp -implicitDefEqProofs [a1, a2, a3, a4]
            refine (p_span_May r.1.1 r.1.2.1).call1 (by simp) ?_
            cases a5 : spanMay r.1.1 r.1.2.1
            · simp -implicitDefEqProofs [a1, a2, a3, a4, a5]
            · simp -implicitDefEqProofs [a1, a2, a3, a4, a5]
              refine (p_piecesMay r.1.1 r.1.2.1 (rPieces r)).call1 (by simp) ?_
              simp -implicitDefEqProofs [a1, a2, a3, a4, a5]
        · simp -implicitDefEqProofs [a1, a2, a3]
      · simp -implicitDefEqProofs [a1, a2]
    · simp -implicitDefEqProofs [a1]
  by_cases h3 : rKind r = 3
  · simp -implicitDefEqProofs [c_tell_May, r_tell_May_0, r_tell_May_1, r_tell_May_2, r_tell_May_3, r_tell_May_4, r_tell_May_5, r_tell_May_6, r_tell_May_7, r_tell_May_8, r_tell_May_9, r_tell_May_10, r_tell_May_11, r_tell_May_12, mayR, hp, h3]
    by_cases a1 : 0 ≤ r.2.1.1
    · by_cases a2 : r.2.1.1 < 4096
      · simp -implicitDefEqProofs [a1, a2]
        refine (p_vertsMay (rVerts r) hv).call1 (by simp) ?_
        simp -implicitDefEqProofs [a1, a2]
      · simp -implicitDefEqProofs [a1, a2]
    · simp -implicitDefEqProofs [a1]
  by_cases h5 : rKind r = 5
  · simp -implicitDefEqProofs [c_tell_May, r_tell_May_0, r_tell_May_1, r_tell_May_2, r_tell_May_3, r_tell_May_4, r_tell_May_5, r_tell_May_6, r_tell_May_7, r_tell_May_8, r_tell_May_9, r_tell_May_10, r_tell_May_11, r_tell_May_12, mayR, hp, h5]
    refine (p_rateIs (rValue r)).call1 (by simp) ?_
    simp -implicitDefEqProofs []
  simp -implicitDefEqProofs [c_tell_May, r_tell_May_0, r_tell_May_1, r_tell_May_2, r_tell_May_3, r_tell_May_4, r_tell_May_5, r_tell_May_6, r_tell_May_7, r_tell_May_8, r_tell_May_9, r_tell_May_10, r_tell_May_11, r_tell_May_12, mayR, hp, h1, h2, h3, h5]
theorem p_counted (xs : List Int) (hsz : (xs.length + 1) * 8 ≤ 140737488355328) : Pure F n_tell_counted [.fsl shI xs] (.fsl shI ((xs.length : Int) :: xs)) := by
  refine PureP.start (m := c_tell_counted) (by kernel_rfl) rfl ?_
  have hsz' : (1 + xs.length) * 8 ≤ 140737488355328 := by omega
  by_cases hx : xs = []
  · subst hx
    simp -implicitDefEqProofs [c_tell_counted, r_tell_counted_0, r_tell_counted_1]
    exact ⟨rfl, trivial⟩
  · have hl : ¬ 1 + xs.length ≤ 1 := by have := List.length_pos_iff.2 hx; omega
    simp -implicitDefEqProofs [c_tell_counted, r_tell_counted_0, r_tell_counted_1, hx, hl, hsz']
    refine ⟨by omega, by omega, ?_⟩
    rw [List.take_of_length_le (by simp; omega)]
    exact frzEls_all (s := shI) (l := (xs.length : Int) :: xs)
def pathNums (q : Path) : List Int := q.1 :: (q.2.1.length : Int) :: q.2.1
def pieceNums (p : Piece) : List Int := p.1.1 :: p.1.2.1 :: (p.2.1.length : Int) :: p.2.1.flatMap pathNums
def grantNums (r : Reply) : List Int := rId r :: rRate r :: r.1.1 :: r.1.2.1 :: ((rPieces r).length : Int) :: (rPieces r).flatMap pieceNums
theorem l_grant_0 (qs : List Path) {l : List (Nat × NRow)} {v23 v24 v25 : NV} {Q : Out → NEnv → NHeap → Prop} : ∀ k j acc nx r els n, els = elsN shI acc → n = acc.length → j + k = qs.length → qs.length < 9223372036854775807 → r < nx → getR l r = none → (∀ x, nx ≤ x → getR l x = none) → (acc.length + ((qs.drop j).flatMap pathNums).length) * 8 ≤ 140737488355328 →
    (∀ nx' r', nx ≤ nx' → r' < nx' → getR l r' = none → Q (.ex 2) [(3, .sl r' 0 (acc ++ (qs.drop j).flatMap pathNums).length (acc ++ (qs.drop j).flatMap pathNums).length), (23, v23), (24, v24), (25, v25), (42, .fsl shPath qs), (43, iV qs.length), (44, iV qs.length), (45, bV false)] ⟨nx', (r', ⟨elsN shI (acc ++ (qs.drop j).flatMap pathNums), 1, 1, true, none⟩) :: l⟩) →
    NWp F (.loop l_tell_grant_0) [(3, .sl r 0 n n), (23, v23), (24, v24), (25, v25), (42, .fsl shPath qs), (43, iV qs.length), (44, iV j)] ⟨nx, (r, ⟨els, 1, 1, true, none⟩) :: l⟩ Q := by
  intro k
  induction k with
  | zero =>
    intro j acc nx r els n he hn hj hb hr hlr hl hsz hq
    subst he hn
    obtain rfl : j = qs.length := by omega
    refine NWp.loopE l_tell_grant_0.eq_1 ?_
    simp -implicitDefEqProofs [r_tell_grant_0, r_tell_grant_1, r_tell_grant_2, r_tell_grant_3, r_tell_grant_4, r_tell_grant_5, r_tell_grant_6, r_tell_grant_7, r_tell_grant_8, r_tell_grant_9, r_tell_grant_10, r_tell_grant_11, r_tell_grant_12]
    have := hq nx r (Nat.le_refl _) hr hlr
    simpa using this
  | succ k ih =>
    intro j acc nx r els n he hn hj hb hr hlr hl hsz hq
    subst he hn
    have hlt : j < qs.length := by omega
    have hw := wrap_succ (n := j) (by omega)
    rw [List.drop_eq_getElem_cons hlt, List.flatMap_cons] at hsz hq
    generalize hp : qs[j] = p at hsz hq
    have hpl : (pathNums p).length = p.2.1.length + 2 := rfl
    rw [List.length_append, hpl] at hsz
    have f1 : ¬ nx = r := by omega
    have f2 : ¬ nx + 1 = r := by omega
    have f3 : (acc.length + 1) * 8 ≤ 140737488355328 := by omega
    refine NWp.loopE l_tell_grant_0.eq_1 ?_
    simp -implicitDefEqProofs [r_tell_grant_0, r_tell_grant_1, r_tell_grant_2, r_tell_grant_3, r_tell_grant_4, r_tell_grant_5, r_tell_grant_6, r_tell_grant_7, r_tell_grant_8, r_tell_grant_9, r_tell_grant_10, r_tell_grant_11, r_tell_grant_12, hlt, hp, f1, f2, f3, delR_none hlr]
    refine (p_counted p.2.1 (by omega)).callD [] (by simp) rfl ?_
    have f4 : (acc.length + 1 + (p.2.1.length + 1)) * 8 ≤ 140737488355328 := by omega
    have f5 : ¬ acc.length + 1 + (p.2.1.length + 1) ≤ acc.length + 1 := by omega
    simp -implicitDefEqProofs [f4, f5, hw, delR_none (hl (nx + 1 + 1) (by omega))]
    refine NWp.pop1 (by simp [hl (nx + 1) (by omega)]) ?_
    refine NWp.pop1 (hl nx (Nat.le_refl _)) ?_
    have hal : (acc ++ pathNums p).length = acc.length + 1 + (p.2.1.length + 1) := by rw [List.length_append, hpl]; omega
    have h9 := ih (j + 1) (acc ++ pathNums p) (nx + 1 + 1 + 1 + 1) (nx + 1 + 1 + 1) _ _ rfl rfl (by omega) hb (by omega) (hl _ (by omega)) (fun x hx => hl x (by omega)) (by rw [hal]; omega) (fun nx' r' a b c => by simpa [List.append_assoc] using hq nx' r' (by omega) b c)
    rw [hal, elsN_append] at h9
    rw [List.take_of_length_le (by simp)]
    have e1 : (elsN shI acc ++ [[iV p.1]]) ++ elsN shI ((p.2.1.length : Int) :: p.2.1) = elsN shI acc ++ elsN shI (pathNums p) := by
      rw [List.append_assoc]; rfl
    rw [e1]
    exact h9
theorem l_grant_1 (ps : List Piece) {l : List (Nat × NRow)} {Q : Out → NEnv → NHeap → Prop} : ∀ k i acc nx r els n, els = elsN shI acc → n = acc.length → i + k = ps.length → ps.length < 9223372036854775807 → (∀ p ∈ ps, p.2.1.length < 9223372036854775807) → r < nx → getR l r = none → (∀ x, nx ≤ x → getR l x = none) → (acc.length + ((ps.drop i).flatMap pieceNums).length) * 8 ≤ 140737488355328 →
    (∀ nx' r', nx ≤ nx' → r' < nx' → getR l r' = none → Q (.ex 0) [(3, .sl r' 0 (acc ++ (ps.drop i).flatMap pieceNums).length (acc ++ (ps.drop i).flatMap pieceNums).length), (23, .fsl shPiece ps), (24, iV ps.length), (25, iV ps.length), (26, bV false)] ⟨nx', (r', ⟨elsN shI (acc ++ (ps.drop i).flatMap pieceNums), 1, 1, true, none⟩) :: l⟩) →
    NWp F (.loop l_tell_grant_1) [(3, .sl r 0 n n), (23, .fsl shPiece ps), (24, iV ps.length), (25, iV i)] ⟨nx, (r, ⟨els, 1, 1, true, none⟩) :: l⟩ Q := by
  intro k
  induction k with
  | zero =>
    intro i acc nx r els n he hn hi hb hbs hr hlr hl hsz hq
    subst he hn
    obtain rfl : i = ps.length := by omega
    refine NWp.loopE l_tell_grant_1.eq_1 ?_
    simp -implicitDefEqProofs [r_tell_grant_0, r_tell_grant_1, r_tell_grant_2, r_tell_grant_3, r_tell_grant_4, r_tell_grant_5, r_tell_grant_6, r_tell_grant_7, r_tell_grant_8, r_tell_grant_9, r_tell_grant_10, r_tell_grant_11, r_tell_grant_12]
    have := hq nx r (Nat.le_refl _) hr hlr
    simpa using this
  | succ k ih =>
    intro i acc nx r els n he hn hi hb hbs hr hlr hl hsz hq
    subst he hn
    have hlt : i < ps.length := by omega
    have hw := wrap_succ (n := i) (by omega)
    rw [List.drop_eq_getElem_cons hlt, List.flatMap_cons] at hsz hq
    generalize hp : ps[i] = p at hsz hq
    have hpb : p.2.1.length < 9223372036854775807 := hbs p (by rw [← hp]; exact List.getElem_mem hlt)
    have hpl : (pieceNums p).length = (p.2.1.flatMap pathNums).length + 3 := rfl
    rw [List.length_append, hpl] at hsz
    have f1 : ¬ nx = r := by omega
    have f2 : ¬ nx + 1 = r := by omega
    have f3 : (acc.length + 3) * 8 ≤ 140737488355328 := by omega
    have f4 : ¬ acc.length + 3 ≤ acc.length := by omega
    refine NWp.loopE l_tell_grant_1.eq_1 ?_
    simp -implicitDefEqProofs [r_tell_grant_0, r_tell_grant_1, r_tell_grant_2, r_tell_grant_3, r_tell_grant_4, r_tell_grant_5, r_tell_grant_6, r_tell_grant_7, r_tell_grant_8, r_tell_grant_9, r_tell_grant_10, r_tell_grant_11, r_tell_grant_12, hlt, hp, f1, f2, f3, f4, delR_none hlr]
    refine l_grant_0 p.2.1 p.2.1.length 0 (acc ++ [p.1.1, p.1.2.1, (p.2.1.length : Int)]) (nx + 1 + 1 + 1) (nx + 1 + 1) _ _ (by rw [elsN_append]; rfl) (by simp) (by omega) hpb (by omega) (by simp [hl (nx + 1 + 1) (by omega)]) (fun x hx => by simp [hl x (by omega), show ¬ nx + 1 = x by omega, show ¬ nx = x by omega]) (by simp only [List.length_append, List.length_cons, List.length_nil, List.drop_zero]; omega) (fun nx' r' a b c => ?_)
    have c' : getR l r' = none := by
      simp at c
      split at c
      · cases c
      · split at c
        · cases c
        · exact c
    simp -implicitDefEqProofs [r_tell_grant_0, r_tell_grant_1, r_tell_grant_2, r_tell_grant_3, r_tell_grant_4, r_tell_grant_5, r_tell_grant_6, r_tell_grant_7, r_tell_grant_8, r_tell_grant_9, r_tell_grant_10, r_tell_grant_11, r_tell_grant_12, hw]
    refine NWp.pop1 (by simp [hl (nx + 1) (by omega)]) ?_
    refine NWp.pop1 (hl nx (Nat.le_refl _)) ?_
    have e2 : acc ++ p.1.1 :: p.1.2.1 :: (p.2.1.length : Int) :: p.2.1.flatMap pathNums = acc ++ pieceNums p := rfl
    refine ih (i + 1) (acc ++ pieceNums p) nx' r' _ _ (by simp [pieceNums]) (by simp [pieceNums]) (by omega) hb hbs b c' (fun x hx => hl x (by omega)) (by rw [List.length_append, hpl]; omega) (fun nx' r' a b c => by simpa [List.append_assoc] using hq nx' r' (by omega) b c)
theorem p_grant (r : Reply) (hb : (rPieces r).length < 9223372036854775807) (hbs : ∀ p ∈ rPieces r, p.2.1.length < 9223372036854775807) (hsz : (grantNums r).length * 8 ≤ 140737488355328) : Pure F n_tell_grant [.agg (cellsN shReply r)] (.fsl shI (grantNums r)) := by
  refine PureP.start (m := c_tell_grant) (by kernel_rfl) rfl ?_
  simp -implicitDefEqProofs [c_tell_grant, r_tell_grant_0, r_tell_grant_1, r_tell_grant_2, r_tell_grant_3, r_tell_grant_4, r_tell_grant_5, r_tell_grant_6, r_tell_grant_7, r_tell_grant_8, r_tell_grant_9, r_tell_grant_10, r_tell_grant_11, r_tell_grant_12]
  have hgl : (grantNums r).length = 5 + ((rPieces r).flatMap pieceNums).length := by
    simp only [grantNums, List.length_cons]; omega
  refine l_grant_1 (rPieces r) (rPieces r).length 0 [rId r, rRate r, r.1.1, r.1.2.1, ((rPieces r).length : Int)] 2 1 _ _ rfl rfl (by omega) hb hbs (by omega) (by simp) (fun x hx => by simp [show ¬ 0 = x by omega]) (by simp only [List.length_cons, List.length_nil, List.drop_zero]; omega) (fun nx' r' a b c => ?_)
  simp at c
  rw [show [rId r, rRate r, r.1.1, r.1.2.1, ((rPieces r).length : Int)] ++ ((rPieces r).drop 0).flatMap pieceNums = grantNums r from rfl]
  generalize grantNums r = g
  simp -implicitDefEqProofs [c_tell_grant, r_tell_grant_0, r_tell_grant_1, r_tell_grant_2, r_tell_grant_3, r_tell_grant_4, r_tell_grant_5, r_tell_grant_6, r_tell_grant_7, r_tell_grant_8, r_tell_grant_9, r_tell_grant_10, r_tell_grant_11, r_tell_grant_12]
end Go.Proofs.Ytnjmdkecpadehaa
