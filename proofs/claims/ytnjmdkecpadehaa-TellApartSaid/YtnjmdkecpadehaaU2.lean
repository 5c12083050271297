import Derived.Test.YtnjmdkecpadehaaU1
set_option linter.all false
set_option linter.unusedSimpArgs false
namespace Go.Proofs.Ytnjmdkecpadehaa
open M
abbrev shSpan : Sh := .pair shI (.pair shI .unit)
abbrev shPiece : Sh := .pair shSpan (.pair (.sl shPath) .unit)
abbrev shCut : Sh := .pair shI (.pair (.sl shI) .unit)
abbrev shReply : Sh := .pair shSpan (.pair shCut (.pair shI (.pair shI (.pair shI (.pair shI (.pair shI (.pair (.sl shPiece) .unit)))))))
abbrev Path := Int × List Int × Unit
abbrev Piece := (Int × Int × Unit) × List Path × Unit
abbrev Reply := (Int × Int × Unit) × (Int × List Int × Unit) × Int × Int × Int × Int × Int × List Piece × Unit
abbrev rKind (r : Reply) : Int := r.2.2.1
abbrev rCode (r : Reply) : Int := r.2.2.2.1
abbrev rId (r : Reply) : Int := r.2.2.2.2.1
abbrev rRate (r : Reply) : Int := r.2.2.2.2.2.1
abbrev rValue (r : Reply) : Int := r.2.2.2.2.2.2.1
abbrev rPieces (r : Reply) : List Piece := r.2.2.2.2.2.2.2.1
def spanMay (f t : Int) : Bool := decide (0 ≤ f ∧ f < t ∧ t ≤ 4096)
theorem p_span_May (f t : Int) : Pure F n_span_May [.agg [iV f, iV t]] (bV (spanMay f t)) := by
  refine PureP.start (m := c_span_May) (by kernel_rfl) rfl ?_
  simp -implicitDefEqProofs [c_span_May, r_span_May_0, r_span_May_1, spanMay]
  repeat' (first | (with_reducible refine ngdT_dec (fun _ => ?_) (fun _ => ?_)) | (with_reducible refine ngdF_dec (fun _ => ?_) (fun _ => ?_)) | (with_reducible refine ncond_dec (fun _ => ?_) (fun _ => ?_)) | (with_reducible refine ndgdT_dec (fun _ => ?_) (fun _ => ?_)) | (with_reducible refine ndgdF_dec (fun _ => ?_) (fun _ => ?_)) | (with_reducible refine ngdT_bool (fun _ => ?_) (fun _ => ?_)) | (with_reducible refine ngdF_bool (fun _ => ?_) (fun _ => ?_)) | (with_reducible refine ncond_bool (fun _ => ?_) (fun _ => ?_)) | (with_reducible refine ndgdT_bool (fun _ => ?_) (fun _ => ?_)) | (with_reducible refine ndgdF_bool (fun _ => ?_) (fun _ => ?_)) | simp -implicitDefEqProofs [*])
def plainR (r : Reply) : Reply :=
  if rKind r = 1 then ((0, 0, ()), (0, [], ()), rKind r, rCode r, 0, 0, 0, [], ())
  else if rKind r = 2 then (r.1, (0, [], ()), rKind r, 0, rId r, rRate r, 0, rPieces r, ())
  else if rKind r = 3 then ((0, 0, ()), r.2.1, rKind r, 0, 0, 0, 0, [], ())
  else if rKind r = 5 then ((0, 0, ()), (0, [], ()), rKind r, 0, 0, 0, rValue r, [], ())
  else ((0, 0, ()), (0, [], ()), rKind r, 0, 0, 0, 0, [], ())
theorem p_plain (r : Reply) : Pure F n_tell_plain [.agg (cellsN shReply r)] (.agg (cellsN shReply (plainR r))) := by
  refine PureP.start (m := c_tell_plain) (by kernel_rfl) rfl ?_
  by_cases h1 : r.2.2.1 = 1
  · simp -implicitDefEqProofs [c_tell_plain, r_tell_plain_0, r_tell_plain_1, r_tell_plain_2, r_tell_plain_3, r_tell_plain_4, r_tell_plain_5, r_tell_plain_6, r_tell_plain_7, r_tell_plain_8, r_tell_plain_9, r_tell_plain_10, r_tell_plain_11, plainR, h1]
  by_cases h2 : r.2.2.1 = 2
  · simp -implicitDefEqProofs [c_tell_plain, r_tell_plain_0, r_tell_plain_1, r_tell_plain_2, r_tell_plain_3, r_tell_plain_4, r_tell_plain_5, r_tell_plain_6, r_tell_plain_7, r_tell_plain_8, r_tell_plain_9, r_tell_plain_10, r_tell_plain_11, plainR, h2]
  by_cases h3 : r.2.2.1 = 3
  · simp -implicitDefEqProofs [c_tell_plain, r_tell_plain_0, r_tell_plain_1, r_tell_plain_2, r_tell_plain_3, r_tell_plain_4, r_tell_plain_5, r_tell_plain_6, r_tell_plain_7, r_tell_plain_8, r_tell_plain_9, r_tell_plain_10, r_tell_plain_11, plainR, h3]
  by_cases h5 : r.2.2.1 = 5
  · simp -implicitDefEqProofs [c_tell_plain, r_tell_plain_0, r_tell_plain_1, r_tell_plain_2, r_tell_plain_3, r_tell_plain_4, r_tell_plain_5, r_tell_plain_6, r_tell_plain_7, r_tell_plain_8, r_tell_plain_9, r_tell_plain_10, r_tell_plain_11, plainR, h5]
  simp -implicitDefEqProofs [c_tell_plain, r_tell_plain_0, r_tell_plain_1, r_tell_plain_2, r_tell_plain_3, r_tell_plain_4, r_tell_plain_5, r_tell_plain_6, r_tell_plain_7, r_tell_plain_8, r_tell_plain_9, r_tell_plain_10, r_tell_plain_11, plainR, h1, h2, h3, h5]
def isPlain (r : Reply) : Bool := decide ((plainR r).1.1 = r.1.1 ∧ (plainR r).1.2.1 = r.1.2.1 ∧ (plainR r).2.1.1 = r.2.1.1 ∧ (plainR r).2.1.2.1.length = r.2.1.2.1.length ∧ rCode (plainR r) = rCode r ∧ rId (plainR r) = rId r ∧ rRate (plainR r) = rRate r ∧ rValue (plainR r) = rValue r ∧ (rPieces (plainR r)).length = (rPieces r).length)
theorem p_isPlain (r : Reply) : Pure F n_tell_isPlain [.agg (cellsN shReply r)] (bV (isPlain r)) := by
  refine PureP.start (m := c_tell_isPlain) (by kernel_rfl) rfl ?_
  have hp := p_plain r
  unfold isPlain
  generalize plainR r = q at hp ⊢
  simp -implicitDefEqProofs [c_tell_isPlain, r_tell_isPlain_0, r_tell_isPlain_1]
  refine Pure.call1 (by simpa using hp) (by simp) ?_
  simp -implicitDefEqProofs [r_tell_isPlain_2]
  clear hp
  repeat' (first | (with_reducible refine ngdT_dec (fun _ => ?_) (fun _ => ?_)) | (with_reducible refine ngdF_dec (fun _ => ?_) (fun _ => ?_)) | (with_reducible refine ncond_dec (fun _ => ?_) (fun _ => ?_)) | (with_reducible refine ndgdT_dec (fun _ => ?_) (fun _ => ?_)) | (with_reducible refine ndgdF_dec (fun _ => ?_) (fun _ => ?_)) | (with_reducible refine ngdT_bool (fun _ => ?_) (fun _ => ?_)) | (with_reducible refine ngdF_bool (fun _ => ?_) (fun _ => ?_)) | (with_reducible refine ncond_bool (fun _ => ?_) (fun _ => ?_)) | (with_reducible refine ndgdT_bool (fun _ => ?_) (fun _ => ?_)) | (with_reducible refine ndgdF_bool (fun _ => ?_) (fun _ => ?_)) | simp -implicitDefEqProofs [*])
  all_goals simp_all [rPieces, rCode, rId, rRate, rValue]
  all_goals trace_state
end Go.Proofs.Ytnjmdkecpadehaa
