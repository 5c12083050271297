import Derived.Test.YtnjmdkecpadehaaU13
set_option linter.all false
set_option linter.unusedSimpArgs false
namespace Go.Proofs.Ytnjmdkecpadehaa
open M
theorem l_CopyPieces (xs : List Piece) (hsz : xs.length * 40 ≤ 140737488355328) (hszs : ∀ x ∈ xs, x.2.1.length * 32 ≤ 140737488355328 ∧ ∀ w ∈ x.2.1, w.2.1.length * 8 ≤ 140737488355328) {Q : Out → NEnv → NHeap → Prop}
    (hq : ∀ nx r, r < nx → Q (.ex 0) [(0, .fsl shPiece xs), (3, .sl r 0 xs.length xs.length), (4, iV xs.length), (8, bV false)] ⟨nx, [(r, ⟨elsN shPiece xs, 3, 3, true, none⟩)]⟩) :
    ∀ (k i nx r : Nat), i + k = xs.length → r < nx → NWp F (.loop l_tollbarlaw0_CopyPieces_0) [(0, .fsl shPiece xs), (3, .sl r 0 i i), (4, iV i)] ⟨nx, [(r, ⟨elsN shPiece (xs.take i), 3, 3, true, none⟩)]⟩ Q := by
  intro k
  induction k with
  | zero =>
    intro i nx r hi hr
    obtain rfl : i = xs.length := by omega
    refine NWp.loopE l_tollbarlaw0_CopyPieces_0.eq_1 ?_
    simp -implicitDefEqProofs [r_tollbarlaw0_CopyPieces_0, r_tollbarlaw0_CopyPieces_1, r_tollbarlaw0_CopyPieces_2, r_tollbarlaw0_CopyPieces_3, r_tollbarlaw0_CopyPieces_4, r_tollbarlaw0_CopyPieces_5, r_tollbarlaw0_CopyPieces_6]
    exact hq nx r hr
  | succ k ih =>
    intro i nx r hi hr
    have hlt : i < xs.length := by omega
    refine NWp.loopE l_tollbarlaw0_CopyPieces_0.eq_1 ?_
    simp -implicitDefEqProofs [r_tollbarlaw0_CopyPieces_3, r_tollbarlaw0_CopyPieces_4, hlt]
    refine (p_CopyPaths xs[i].2.1 (hszs _ (List.getElem_mem hlt)).1 (hszs _ (List.getElem_mem hlt)).2).callD [] (by simp) rfl ?_
    have f1 : ¬ nx = r := by omega
    have f2 : min i xs.length = i := by omega
    have f3 : (i + 1) * 40 ≤ 140737488355328 := by omega
    have f4 : IntKind.i64.wrap ((i : Int) + 1) = ((i + 1 : Nat) : Int) := wrap_succ (by omega)
    simp -implicitDefEqProofs [f1, f2, f3, f4, r_tollbarlaw0_CopyPieces_5]
    refine NWp.del nx ?_
    have h9 := ih (i + 1) (nx + 2) (nx + 1) (by omega) (by omega)
    rw [elsN_take_succ hlt] at h9
    simpa using h9
theorem p_CopyPieces (xs : List Piece) (hsz : xs.length * 40 ≤ 140737488355328) (hszs : ∀ x ∈ xs, x.2.1.length * 32 ≤ 140737488355328 ∧ ∀ w ∈ x.2.1, w.2.1.length * 8 ≤ 140737488355328) : Pure F n_tollbarlaw0_CopyPieces [.fsl shPiece xs] (.fsl shPiece xs) := by
  refine PureP.start (m := c_tollbarlaw0_CopyPieces) (by kernel_rfl) rfl ?_
  simp -implicitDefEqProofs [c_tollbarlaw0_CopyPieces, r_tollbarlaw0_CopyPieces_0, r_tollbarlaw0_CopyPieces_1, r_tollbarlaw0_CopyPieces_2, r_tollbarlaw0_CopyPieces_3, r_tollbarlaw0_CopyPieces_4, r_tollbarlaw0_CopyPieces_5, r_tollbarlaw0_CopyPieces_6]
  refine NWp.own 3 3 none (by simp) ?_
  simp
  refine l_CopyPieces xs hsz hszs ?_ xs.length 0 1 0 (by omega) (by omega)
  intro nx r hr
  simp -implicitDefEqProofs [c_tollbarlaw0_CopyPieces, r_tollbarlaw0_CopyPieces_0, r_tollbarlaw0_CopyPieces_1, r_tollbarlaw0_CopyPieces_2, r_tollbarlaw0_CopyPieces_3, r_tollbarlaw0_CopyPieces_4, r_tollbarlaw0_CopyPieces_5, r_tollbarlaw0_CopyPieces_6]
def bytesR (r : Reply) : Prop := (rVerts r).length * 8 ≤ 140737488355328 ∧ (rPieces r).length * 40 ≤ 140737488355328 ∧ ∀ p ∈ rPieces r, p.2.1.length * 32 ≤ 140737488355328 ∧ ∀ w ∈ p.2.1, w.2.1.length * 8 ≤ 140737488355328
theorem fits_of {r : Reply} (h : bytesR r) : fitsR r := ⟨by have := h.1; omega, by have := h.2.1; omega, fun p hp => ⟨by have := (h.2.2 p hp).1; omega, fun w hw => by have := (h.2.2 p hp).2 w hw; omega⟩⟩
theorem p_CopyReply (r : Reply) (h : bytesR r) : Pure F n_tollbarlaw0_CopyReply [.agg (cellsN shReply r)] (.agg (cellsN shReply r)) := by
  refine PureP.start (m := c_tollbarlaw0_CopyReply) (by kernel_rfl) rfl ?_
  simp -implicitDefEqProofs [c_tollbarlaw0_CopyReply, r_tollbarlaw0_CopyReply_0, r_tollbarlaw0_CopyReply_1]
  refine (p_CopyInts (rVerts r) h.1).call1 (by simp) ?_
  simp -implicitDefEqProofs [c_tollbarlaw0_CopyReply, r_tollbarlaw0_CopyReply_0, r_tollbarlaw0_CopyReply_1, r_tollbarlaw0_CopyReply_2, r_tollbarlaw0_CopyReply_3]
  refine (p_CopyPieces (rPieces r) h.2.1 h.2.2).call1 (by simp) ?_
  simp -implicitDefEqProofs [c_tollbarlaw0_CopyReply, r_tollbarlaw0_CopyReply_0, r_tollbarlaw0_CopyReply_1, r_tollbarlaw0_CopyReply_2, r_tollbarlaw0_CopyReply_3]
theorem p_Num (x : Int) : Pure F n_tollbarlaw0_Num [iV x] (iV x) := by
  refine PureP.start (m := c_tollbarlaw0_Num) (by kernel_rfl) rfl ?_
  simp -implicitDefEqProofs [c_tollbarlaw0_Num, r_tollbarlaw0_Num_0, r_tollbarlaw0_Num_1]
theorem p_lSameReply (a b : Reply) (hf : fitsR a) : Pure F n_tollbarlaw0_SameReply [.agg (cellsN shReply a), .agg (cellsN shReply b)] (bV (decide (a = b))) := by
  refine PureP.start (m := c_tollbarlaw0_SameReply) (by kernel_rfl) rfl ?_
  simp -implicitDefEqProofs [c_tollbarlaw0_SameReply, r_tollbarlaw0_SameReply_0, r_tollbarlaw0_SameReply_1]
  refine (p_SameReply a b hf).call1 (by simp) ?_
  simp -implicitDefEqProofs [c_tollbarlaw0_SameReply, r_tollbarlaw0_SameReply_0, r_tollbarlaw0_SameReply_1]
end Go.Proofs.Ytnjmdkecpadehaa
