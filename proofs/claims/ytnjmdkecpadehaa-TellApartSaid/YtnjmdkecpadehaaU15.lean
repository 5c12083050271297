import Derived.Test.YtnjmdkecpadehaaU14
set_option linter.all false
set_option linter.unusedSimpArgs false
namespace Go.Proofs.Ytnjmdkecpadehaa
open M
theorem p_awake : Pure F n_tollbarlaw23_awake [] (bV true) := by
  intro V H us ho hV hv
  cases us with
  | cons a b => cases hv
  | nil =>
    exact Cw.known (k := closedF (.bool true)) (by kernel_rfl) (v := .bool true) rfl ⟨ho, Nat.le_refl _, View.le_refl _, V, bV true, View.le_refl _, hV, fun b row e => .inr e, ⟨rfl, rfl⟩, rfl⟩
theorem writeRes_eq (r : Reply) : writeRes r = .tup [sV (if mayR r then ⟨(putB (numsR r)).toArray⟩ else .empty), iV (if mayR r then 0 else 2300)] := by
  unfold writeRes
  split <;> rfl
theorem seql_self (a : ByteArray) : binV .eql (.string a) (.string a) = some (.bool true) := by
  simp [binV, strOp]
theorem p_Tells (r : Reply) (h : bytesR r) : Pure F n_tollbarlaw23_Tells [.agg (cellsN shReply r)] (bV true) := by
  have hf := fits_of h
  refine PureP.start (m := c_tollbarlaw23_Tells) (by kernel_rfl) rfl ?_
  simp -implicitDefEqProofs [c_tollbarlaw23_Tells, r_tollbarlaw23_Tells_0, r_tollbarlaw23_Tells_1, r_tollbarlaw23_Tells_2, r_tollbarlaw23_Tells_3, r_tollbarlaw23_Tells_4]
  refine (p_CopyReply r h).call1 (by simp) ?_
  simp -implicitDefEqProofs [c_tollbarlaw23_Tells, r_tollbarlaw23_Tells_0, r_tollbarlaw23_Tells_1, r_tollbarlaw23_Tells_2, r_tollbarlaw23_Tells_3, r_tollbarlaw23_Tells_4]
  have hw := p_Write r hf.1
  have hw' := p_WriteTell r hf
  rw [writeRes_eq] at hw hw'
  generalize (if mayR r then (⟨(putB (numsR r)).toArray⟩ : ByteArray) else .empty) = s at hw hw'
  generalize (if mayR r then (0 : Int) else 2300) = e at hw hw'
  refine hw.call1 (by simp) ?_
  simp -implicitDefEqProofs [c_tollbarlaw23_Tells, r_tollbarlaw23_Tells_0, r_tollbarlaw23_Tells_1, r_tollbarlaw23_Tells_2, r_tollbarlaw23_Tells_3, r_tollbarlaw23_Tells_4]
  refine hw'.call1 (by simp) ?_
  simp -implicitDefEqProofs [c_tollbarlaw23_Tells, r_tollbarlaw23_Tells_0, r_tollbarlaw23_Tells_1, r_tollbarlaw23_Tells_2, r_tollbarlaw23_Tells_3, r_tollbarlaw23_Tells_4]
  refine p_awake.callD [] (by simp) rfl ?_
  simp -implicitDefEqProofs [c_tollbarlaw23_Tells, r_tollbarlaw23_Tells_0, r_tollbarlaw23_Tells_1, r_tollbarlaw23_Tells_2, r_tollbarlaw23_Tells_3, r_tollbarlaw23_Tells_4]
  refine (p_May r hf.1).callD [] (by simp) rfl ?_
  simp -implicitDefEqProofs [c_tollbarlaw23_Tells, r_tollbarlaw23_Tells_0, r_tollbarlaw23_Tells_1, r_tollbarlaw23_Tells_2, r_tollbarlaw23_Tells_3, r_tollbarlaw23_Tells_4]
  refine (p_ReplyMay r hf).callD [] (by simp) rfl ?_
  rw [may_eq]
  simp -implicitDefEqProofs [c_tollbarlaw23_Tells, r_tollbarlaw23_Tells_0, r_tollbarlaw23_Tells_1, r_tollbarlaw23_Tells_2, r_tollbarlaw23_Tells_3, r_tollbarlaw23_Tells_4, seql_self]
  refine (p_Num e).callD [] (by simp) rfl ?_
  simp -implicitDefEqProofs [c_tollbarlaw23_Tells, r_tollbarlaw23_Tells_0, r_tollbarlaw23_Tells_1, r_tollbarlaw23_Tells_2, r_tollbarlaw23_Tells_3, r_tollbarlaw23_Tells_4]
  refine (p_lSameReply r r hf).callD [] (by simp) rfl ?_
  simp -implicitDefEqProofs [c_tollbarlaw23_Tells, r_tollbarlaw23_Tells_0, r_tollbarlaw23_Tells_1, r_tollbarlaw23_Tells_2, r_tollbarlaw23_Tells_3, r_tollbarlaw23_Tells_4]
end Go.Proofs.Ytnjmdkecpadehaa
