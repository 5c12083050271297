import Derived.Test.YtnjmdkecpadehaaFTell
set_option linter.all false
set_option linter.unusedSimpArgs false
namespace Go.Proofs.Ytnjmdkecpadehaa
open M
abbrev iV (x : Int) : NV := .v (.int .i64 x)
abbrev bV (x : Bool) : NV := .v (.bool x)
abbrev sV (x : ByteArray) : NV := .v (.string x)
abbrev shI : Sh := .int .i64
abbrev shPath : Sh := .pair shI (.pair (.sl shI) .unit)
theorem p_rate_Is (x : Int) : Pure F n_rate_Is [iV x] (bV (decide (0 ≤ x ∧ x ≤ 4611686018427387904))) := by
  refine PureP.start (m := c_rate_Is) (by kernel_rfl) rfl ?_
  by_cases h : 0 ≤ x <;> simp -implicitDefEqProofs [c_rate_Is, r_rate_Is_0, r_rate_Is_1, h]
theorem p_CopyInts (xs : List Int) (hsz : xs.length * 8 ≤ 140737488355328) : Pure F n_tollbarlaw0_CopyInts [.fsl shI xs] (.fsl shI xs) := by
  refine PureP.start (m := c_tollbarlaw0_CopyInts) (by kernel_rfl) rfl ?_
  by_cases h : xs = [] <;> simp -implicitDefEqProofs [c_tollbarlaw0_CopyInts, r_tollbarlaw0_CopyInts_0, r_tollbarlaw0_CopyInts_1, h, hsz]
theorem l_CopyPaths (xs : List (Dat shPath)) (hsz : xs.length * 32 ≤ 140737488355328) (hszs : ∀ x ∈ xs, (x.2.1 : List Int).length * 8 ≤ 140737488355328) {Q : Out → NEnv → NHeap → Prop}
    (hq : ∀ nx r, r < nx → Q (.ex 0) [(0, .fsl shPath xs), (3, .sl r 0 xs.length xs.length), (4, iV xs.length), (8, bV false)] ⟨nx, [(r, ⟨elsN shPath xs, 2, 2, true, none⟩)]⟩) :
    ∀ (k i nx r : Nat), i + k = xs.length → r < nx → NWp F (.loop l_tollbarlaw0_CopyPaths_0) [(0, .fsl shPath xs), (3, .sl r 0 i i), (4, iV i)] ⟨nx, [(r, ⟨elsN shPath (xs.take i), 2, 2, true, none⟩)]⟩ Q := by
  intro k
  induction k with
  | zero =>
    intro i nx r hi hr
    obtain rfl : i = xs.length := by omega
    refine NWp.loopE l_tollbarlaw0_CopyPaths_0.eq_1 ?_
    simp -implicitDefEqProofs [r_tollbarlaw0_CopyPaths_3]
    exact hq nx r hr
  | succ k ih =>
    intro i nx r hi hr
    have hlt : i < xs.length := by omega
    refine NWp.loopE l_tollbarlaw0_CopyPaths_0.eq_1 ?_
    simp -implicitDefEqProofs [r_tollbarlaw0_CopyPaths_3, r_tollbarlaw0_CopyPaths_4, hlt]
    refine (p_CopyInts xs[i].2.1 (hszs _ (List.getElem_mem hlt))).callD [] (by simp) rfl ?_
    have f1 : ¬ nx = r := by omega
    have f2 : min i xs.length = i := by omega
    have f3 : (i + 1) * 32 ≤ 140737488355328 := by omega
    have f4 : IntKind.i64.wrap ((i : Int) + 1) = ((i + 1 : Nat) : Int) := wrap_succ (by omega)
    simp -implicitDefEqProofs [f1, f2, f3, f4, r_tollbarlaw0_CopyPaths_5]
    refine NWp.del nx ?_
    have h9 := ih (i + 1) (nx + 2) (nx + 1) (by omega) (by omega)
    rw [elsN_take_succ hlt] at h9
    simpa using h9
theorem p_CopyPaths (xs : List (Dat shPath)) (hsz : xs.length * 32 ≤ 140737488355328) (hszs : ∀ x ∈ xs, (x.2.1 : List Int).length * 8 ≤ 140737488355328) : Pure F n_tollbarlaw0_CopyPaths [.fsl shPath xs] (.fsl shPath xs) := by
  refine PureP.start (m := c_tollbarlaw0_CopyPaths) (by kernel_rfl) rfl ?_
  simp -implicitDefEqProofs [c_tollbarlaw0_CopyPaths, r_tollbarlaw0_CopyPaths_0, r_tollbarlaw0_CopyPaths_1, r_tollbarlaw0_CopyPaths_2]
  refine NWp.own 3 2 none (by simp) ?_
  simp
  refine l_CopyPaths xs hsz hszs ?_ xs.length 0 1 0 (by omega) (by omega)
  intro nx r hr
  simp -implicitDefEqProofs [r_tollbarlaw0_CopyPaths_6]
end Go.Proofs.Ytnjmdkecpadehaa
