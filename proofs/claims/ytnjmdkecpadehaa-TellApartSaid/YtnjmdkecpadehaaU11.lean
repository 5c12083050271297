import Derived.Test.YtnjmdkecpadehaaU10
set_option linter.all false
set_option linter.unusedSimpArgs false
namespace Go.Proofs.Ytnjmdkecpadehaa
open M
def fitsR (r : Reply) : Prop := (rVerts r).length < 9223372036854775807 ∧ (rPieces r).length < 9223372036854775807 ∧ ∀ p ∈ rPieces r, p.2.1.length < 9223372036854775807 ∧ ∀ w ∈ p.2.1, w.2.1.length < 9223372036854775807
theorem reply_iff (a b : Reply) : a = b ↔ ((a.1.1 = b.1.1 ∧ a.1.2.1 = b.1.2.1) ∧ a.2.1.1 = b.2.1.1 ∧ rVerts a = rVerts b ∧ rKind a = rKind b ∧ rCode a = rCode b ∧ rId a = rId b ∧ rRate a = rRate b ∧ rValue a = rValue b ∧ rPieces a = rPieces b) := by
  constructor
  · rintro rfl; exact ⟨⟨rfl, rfl⟩, rfl, rfl, rfl, rfl, rfl, rfl, rfl, rfl⟩
  · obtain ⟨⟨a1, a2, ⟨⟩⟩, ⟨a3, a4, ⟨⟩⟩, a5, a6, a7, a8, a9, a10, ⟨⟩⟩ := a
    obtain ⟨⟨b1, b2, ⟨⟩⟩, ⟨b3, b4, ⟨⟩⟩, b5, b6, b7, b8, b9, b10, ⟨⟩⟩ := b
    rintro ⟨⟨h1, h2⟩, h3, h4, h5, h6, h7, h8, h9, h10⟩
    simp only [rVerts, rKind, rCode, rId, rRate, rValue, rPieces] at h1 h2 h3 h4 h5 h6 h7 h8 h9 h10
    subst h1 h2 h3 h4 h5 h6 h7 h8 h9 h10
    rfl
theorem p_SameReply (a b : Reply) (hf : fitsR a) : Pure F n_tollbarref19_SameReply [.agg (cellsN shReply a), .agg (cellsN shReply b)] (bV (decide (a = b))) := by
  refine PureP.start (m := c_tollbarref19_SameReply) (by kernel_rfl) rfl ?_
  have no : ¬ ((a.1.1 = b.1.1 ∧ a.1.2.1 = b.1.2.1) ∧ a.2.1.1 = b.2.1.1 ∧ rVerts a = rVerts b ∧ rKind a = rKind b ∧ rCode a = rCode b ∧ rId a = rId b ∧ rRate a = rRate b ∧ rValue a = rValue b ∧ rPieces a = rPieces b) → decide (a = b) = false := fun h => decide_eq_false fun e => h ((reply_iff a b).1 e)
  by_cases e1 : a.1.1 = b.1.1
  rotate_left
  · simp -implicitDefEqProofs [c_tollbarref19_SameReply, r_tollbarref19_SameReply_0, r_tollbarref19_SameReply_1, e1, no (fun h => e1 h.1.1)]
  by_cases e2 : a.1.2.1 = b.1.2.1
  rotate_left
  · simp -implicitDefEqProofs [c_tollbarref19_SameReply, r_tollbarref19_SameReply_0, r_tollbarref19_SameReply_1, e1, e2, no (fun h => e2 h.1.2)]
  by_cases e3 : a.2.1.1 = b.2.1.1
  rotate_left
  · simp -implicitDefEqProofs [c_tollbarref19_SameReply, r_tollbarref19_SameReply_0, r_tollbarref19_SameReply_1, e1, e2, e3, no (fun h => e3 h.2.1)]
  simp -implicitDefEqProofs [c_tollbarref19_SameReply, r_tollbarref19_SameReply_0, r_tollbarref19_SameReply_1, e1, e2, e3]
  refine (p_SameInts (rVerts a) (rVerts b) hf.1).call1 (by simp) ?_
  by_cases e4 : rVerts a = rVerts b
  rotate_left
  · simp -implicitDefEqProofs [c_tollbarref19_SameReply, r_tollbarref19_SameReply_0, r_tollbarref19_SameReply_1, e4, no (fun h => e4 h.2.2.1)]
  by_cases e5 : rKind a = rKind b
  rotate_left
  · simp -implicitDefEqProofs [c_tollbarref19_SameReply, r_tollbarref19_SameReply_0, r_tollbarref19_SameReply_1, e4, e5, no (fun h => e5 h.2.2.2.1)]
  by_cases e6 : rCode a = rCode b
  rotate_left
  · simp -implicitDefEqProofs [c_tollbarref19_SameReply, r_tollbarref19_SameReply_0, r_tollbarref19_SameReply_1, e4, e5, e6, no (fun h => e6 h.2.2.2.2.1)]
  by_cases e7 : rId a = rId b
  rotate_left
  · simp -implicitDefEqProofs [c_tollbarref19_SameReply, r_tollbarref19_SameReply_0, r_tollbarref19_SameReply_1, e4, e5, e6, e7, no (fun h => e7 h.2.2.2.2.2.1)]
  by_cases e8 : rRate a = rRate b
  rotate_left
  · simp -implicitDefEqProofs [c_tollbarref19_SameReply, r_tollbarref19_SameReply_0, r_tollbarref19_SameReply_1, e4, e5, e6, e7, e8, no (fun h => e8 h.2.2.2.2.2.2.1)]
  by_cases e9 : rValue a = rValue b
  rotate_left
  · simp -implicitDefEqProofs [c_tollbarref19_SameReply, r_tollbarref19_SameReply_0, r_tollbarref19_SameReply_1, e4, e5, e6, e7, e8, e9, no (fun h => e9 h.2.2.2.2.2.2.2.1)]
  simp -implicitDefEqProofs [c_tollbarref19_SameReply, r_tollbarref19_SameReply_0, r_tollbarref19_SameReply_1, e4, e5, e6, e7, e8, e9]
  refine (p_SamePieces (rPieces a) (rPieces b) hf.2.1 hf.2.2).call1 (by simp) ?_
  have hm : (decide (a = b)) = decide (rPieces a = rPieces b) := by
    apply Bool.eq_iff_iff.2
    rw [decide_eq_true_eq, decide_eq_true_eq, reply_iff]
    exact ⟨fun h => h.2.2.2.2.2.2.2.2, fun h => ⟨⟨e1, e2⟩, e3, e4, e5, e6, e7, e8, e9, h⟩⟩
  rw [hm]
  simp -implicitDefEqProofs [c_tollbarref19_SameReply, r_tollbarref19_SameReply_0, r_tollbarref19_SameReply_1, e4, e5, e6, e7, e8, e9]
def is22 (r : Reply) : Bool :=
  if rKind r = 1 then decide (1 ≤ rCode r ∧ rCode r ≤ 9)
  else if rKind r = 2 then grantMay22 r
  else if rKind r = 3 then cutMay r.2.1
  else if rKind r = 4 then true
  else if rKind r = 5 then rateIs (rValue r)
  else false
def replyMay22 (r : Reply) : Bool := is22 r && decide (plainR r = r)
theorem fits_plain {r : Reply} (h : fitsR r) : fitsR (plainR r) := by
  have h0 : (([] : List Int)).length < 9223372036854775807 := by decide
  have h1 : (([] : List Piece)).length < 9223372036854775807 := by decide
  have h2 : ∀ p ∈ ([] : List Piece), p.2.1.length < 9223372036854775807 ∧ ∀ w ∈ p.2.1, w.2.1.length < 9223372036854775807 := fun p h => by cases h
  unfold plainR
  split
  · exact ⟨h0, h1, h2⟩
  split
  · exact ⟨h0, h.2.1, h.2.2⟩
  split
  · exact ⟨h.1, h1, h2⟩
  split
  · exact ⟨h0, h1, h2⟩
  · exact ⟨h0, h1, h2⟩
theorem p_ReplyMay (r : Reply) (hf : fitsR r) : Pure F n_tollbarref22_ReplyMay [.agg (cellsN shReply r)] (bV (replyMay22 r)) := by
  refine PureP.start (m := c_tollbarref22_ReplyMay) (by kernel_rfl) rfl ?_
  have hs := p_SameReply (plainR r) r (fits_plain hf)
  by_cases h1 : rKind r = 1
  · by_cases a : 1 ≤ rCode r
    · by_cases b : rCode r ≤ 9
      · simp -implicitDefEqProofs [c_tollbarref22_ReplyMay, r_tollbarref22_ReplyMay_0, r_tollbarref22_ReplyMay_1, r_tollbarref22_ReplyMay_2, r_tollbarref22_ReplyMay_3, r_tollbarref22_ReplyMay_4, r_tollbarref22_ReplyMay_5, r_tollbarref22_ReplyMay_6, r_tollbarref22_ReplyMay_7, r_tollbarref22_ReplyMay_8, r_tollbarref22_ReplyMay_9, r_tollbarref22_ReplyMay_10, r_tollbarref22_ReplyMay_11, r_tollbarref22_ReplyMay_12, r_tollbarref22_ReplyMay_13, r_tollbarref22_ReplyMay_14, r_tollbarref22_ReplyMay_15, r_tollbarref22_ReplyMay_16, r_tollbarref22_ReplyMay_17, r_tollbarref22_ReplyMay_18, r_tollbarref22_ReplyMay_19, r_tollbarref22_ReplyMay_20, r_tollbarref22_ReplyMay_21, h1, a, b]
        refine hs.callR1 [] (by simp [plainR, h1]) rfl ?_
        simp -implicitDefEqProofs [c_tollbarref22_ReplyMay, r_tollbarref22_ReplyMay_0, r_tollbarref22_ReplyMay_1, r_tollbarref22_ReplyMay_2, r_tollbarref22_ReplyMay_3, r_tollbarref22_ReplyMay_4, r_tollbarref22_ReplyMay_5, r_tollbarref22_ReplyMay_6, r_tollbarref22_ReplyMay_7, r_tollbarref22_ReplyMay_8, r_tollbarref22_ReplyMay_9, r_tollbarref22_ReplyMay_10, r_tollbarref22_ReplyMay_11, r_tollbarref22_ReplyMay_12, r_tollbarref22_ReplyMay_13, r_tollbarref22_ReplyMay_14, r_tollbarref22_ReplyMay_15, r_tollbarref22_ReplyMay_16, r_tollbarref22_ReplyMay_17, r_tollbarref22_ReplyMay_18, r_tollbarref22_ReplyMay_19, r_tollbarref22_ReplyMay_20, r_tollbarref22_ReplyMay_21, h1, a, b, replyMay22, is22]
      · simp -implicitDefEqProofs [c_tollbarref22_ReplyMay, r_tollbarref22_ReplyMay_0, r_tollbarref22_ReplyMay_1, r_tollbarref22_ReplyMay_2, r_tollbarref22_ReplyMay_3, r_tollbarref22_ReplyMay_4, r_tollbarref22_ReplyMay_5, r_tollbarref22_ReplyMay_6, r_tollbarref22_ReplyMay_7, r_tollbarref22_ReplyMay_8, r_tollbarref22_ReplyMay_9, r_tollbarref22_ReplyMay_10, r_tollbarref22_ReplyMay_11, r_tollbarref22_ReplyMay_12, r_tollbarref22_ReplyMay_13, r_tollbarref22_ReplyMay_14, r_tollbarref22_ReplyMay_15, r_tollbarref22_ReplyMay_16, r_tollbarref22_ReplyMay_17, r_tollbarref22_ReplyMay_18, r_tollbarref22_ReplyMay_19, r_tollbarref22_ReplyMay_20, r_tollbarref22_ReplyMay_21, h1, a, b, replyMay22, is22]
    · simp -implicitDefEqProofs [c_tollbarref22_ReplyMay, r_tollbarref22_ReplyMay_0, r_tollbarref22_ReplyMay_1, r_tollbarref22_ReplyMay_2, r_tollbarref22_ReplyMay_3, r_tollbarref22_ReplyMay_4, r_tollbarref22_ReplyMay_5, r_tollbarref22_ReplyMay_6, r_tollbarref22_ReplyMay_7, r_tollbarref22_ReplyMay_8, r_tollbarref22_ReplyMay_9, r_tollbarref22_ReplyMay_10, r_tollbarref22_ReplyMay_11, r_tollbarref22_ReplyMay_12, r_tollbarref22_ReplyMay_13, r_tollbarref22_ReplyMay_14, r_tollbarref22_ReplyMay_15, r_tollbarref22_ReplyMay_16, r_tollbarref22_ReplyMay_17, r_tollbarref22_ReplyMay_18, r_tollbarref22_ReplyMay_19, r_tollbarref22_ReplyMay_20, r_tollbarref22_ReplyMay_21, h1, a, replyMay22, is22]
  by_cases h2 : rKind r = 2
  · simp -implicitDefEqProofs [c_tollbarref22_ReplyMay, r_tollbarref22_ReplyMay_0, r_tollbarref22_ReplyMay_1, r_tollbarref22_ReplyMay_2, r_tollbarref22_ReplyMay_3, r_tollbarref22_ReplyMay_4, r_tollbarref22_ReplyMay_5, r_tollbarref22_ReplyMay_6, r_tollbarref22_ReplyMay_7, r_tollbarref22_ReplyMay_8, r_tollbarref22_ReplyMay_9, r_tollbarref22_ReplyMay_10, r_tollbarref22_ReplyMay_11, r_tollbarref22_ReplyMay_12, r_tollbarref22_ReplyMay_13, r_tollbarref22_ReplyMay_14, r_tollbarref22_ReplyMay_15, r_tollbarref22_ReplyMay_16, r_tollbarref22_ReplyMay_17, r_tollbarref22_ReplyMay_18, r_tollbarref22_ReplyMay_19, r_tollbarref22_ReplyMay_20, r_tollbarref22_ReplyMay_21, h2]
    refine (p_grantMay22 r).callR1 [] (by simp [h2]) rfl ?_
    cases a : grantMay22 r
    · simp -implicitDefEqProofs [c_tollbarref22_ReplyMay, r_tollbarref22_ReplyMay_0, r_tollbarref22_ReplyMay_1, r_tollbarref22_ReplyMay_2, r_tollbarref22_ReplyMay_3, r_tollbarref22_ReplyMay_4, r_tollbarref22_ReplyMay_5, r_tollbarref22_ReplyMay_6, r_tollbarref22_ReplyMay_7, r_tollbarref22_ReplyMay_8, r_tollbarref22_ReplyMay_9, r_tollbarref22_ReplyMay_10, r_tollbarref22_ReplyMay_11, r_tollbarref22_ReplyMay_12, r_tollbarref22_ReplyMay_13, r_tollbarref22_ReplyMay_14, r_tollbarref22_ReplyMay_15, r_tollbarref22_ReplyMay_16, r_tollbarref22_ReplyMay_17, r_tollbarref22_ReplyMay_18, r_tollbarref22_ReplyMay_19, r_tollbarref22_ReplyMay_20, r_tollbarref22_ReplyMay_21, h2, a, replyMay22, is22]
    · simp -implicitDefEqProofs [c_tollbarref22_ReplyMay, r_tollbarref22_ReplyMay_0, r_tollbarref22_ReplyMay_1, r_tollbarref22_ReplyMay_2, r_tollbarref22_ReplyMay_3, r_tollbarref22_ReplyMay_4, r_tollbarref22_ReplyMay_5, r_tollbarref22_ReplyMay_6, r_tollbarref22_ReplyMay_7, r_tollbarref22_ReplyMay_8, r_tollbarref22_ReplyMay_9, r_tollbarref22_ReplyMay_10, r_tollbarref22_ReplyMay_11, r_tollbarref22_ReplyMay_12, r_tollbarref22_ReplyMay_13, r_tollbarref22_ReplyMay_14, r_tollbarref22_ReplyMay_15, r_tollbarref22_ReplyMay_16, r_tollbarref22_ReplyMay_17, r_tollbarref22_ReplyMay_18, r_tollbarref22_ReplyMay_19, r_tollbarref22_ReplyMay_20, r_tollbarref22_ReplyMay_21, h2, a]
      refine hs.callR1 [] (by simp [plainR, h2]) rfl ?_
      simp -implicitDefEqProofs [c_tollbarref22_ReplyMay, r_tollbarref22_ReplyMay_0, r_tollbarref22_ReplyMay_1, r_tollbarref22_ReplyMay_2, r_tollbarref22_ReplyMay_3, r_tollbarref22_ReplyMay_4, r_tollbarref22_ReplyMay_5, r_tollbarref22_ReplyMay_6, r_tollbarref22_ReplyMay_7, r_tollbarref22_ReplyMay_8, r_tollbarref22_ReplyMay_9, r_tollbarref22_ReplyMay_10, r_tollbarref22_ReplyMay_11, r_tollbarref22_ReplyMay_12, r_tollbarref22_ReplyMay_13, r_tollbarref22_ReplyMay_14, r_tollbarref22_ReplyMay_15, r_tollbarref22_ReplyMay_16, r_tollbarref22_ReplyMay_17, r_tollbarref22_ReplyMay_18, r_tollbarref22_ReplyMay_19, r_tollbarref22_ReplyMay_20, r_tollbarref22_ReplyMay_21, h2, a, replyMay22, is22]
  by_cases h3 : rKind r = 3
  · simp -implicitDefEqProofs [c_tollbarref22_ReplyMay, r_tollbarref22_ReplyMay_0, r_tollbarref22_ReplyMay_1, r_tollbarref22_ReplyMay_2, r_tollbarref22_ReplyMay_3, r_tollbarref22_ReplyMay_4, r_tollbarref22_ReplyMay_5, r_tollbarref22_ReplyMay_6, r_tollbarref22_ReplyMay_7, r_tollbarref22_ReplyMay_8, r_tollbarref22_ReplyMay_9, r_tollbarref22_ReplyMay_10, r_tollbarref22_ReplyMay_11, r_tollbarref22_ReplyMay_12, r_tollbarref22_ReplyMay_13, r_tollbarref22_ReplyMay_14, r_tollbarref22_ReplyMay_15, r_tollbarref22_ReplyMay_16, r_tollbarref22_ReplyMay_17, r_tollbarref22_ReplyMay_18, r_tollbarref22_ReplyMay_19, r_tollbarref22_ReplyMay_20, r_tollbarref22_ReplyMay_21, h3]
    refine (p_cutMay r.2.1 hf.1).call1 (by simp) ?_
    cases a : cutMay r.2.1
    · simp -implicitDefEqProofs [c_tollbarref22_ReplyMay, r_tollbarref22_ReplyMay_0, r_tollbarref22_ReplyMay_1, r_tollbarref22_ReplyMay_2, r_tollbarref22_ReplyMay_3, r_tollbarref22_ReplyMay_4, r_tollbarref22_ReplyMay_5, r_tollbarref22_ReplyMay_6, r_tollbarref22_ReplyMay_7, r_tollbarref22_ReplyMay_8, r_tollbarref22_ReplyMay_9, r_tollbarref22_ReplyMay_10, r_tollbarref22_ReplyMay_11, r_tollbarref22_ReplyMay_12, r_tollbarref22_ReplyMay_13, r_tollbarref22_ReplyMay_14, r_tollbarref22_ReplyMay_15, r_tollbarref22_ReplyMay_16, r_tollbarref22_ReplyMay_17, r_tollbarref22_ReplyMay_18, r_tollbarref22_ReplyMay_19, r_tollbarref22_ReplyMay_20, r_tollbarref22_ReplyMay_21, h3, a, replyMay22, is22]
    · simp -implicitDefEqProofs [c_tollbarref22_ReplyMay, r_tollbarref22_ReplyMay_0, r_tollbarref22_ReplyMay_1, r_tollbarref22_ReplyMay_2, r_tollbarref22_ReplyMay_3, r_tollbarref22_ReplyMay_4, r_tollbarref22_ReplyMay_5, r_tollbarref22_ReplyMay_6, r_tollbarref22_ReplyMay_7, r_tollbarref22_ReplyMay_8, r_tollbarref22_ReplyMay_9, r_tollbarref22_ReplyMay_10, r_tollbarref22_ReplyMay_11, r_tollbarref22_ReplyMay_12, r_tollbarref22_ReplyMay_13, r_tollbarref22_ReplyMay_14, r_tollbarref22_ReplyMay_15, r_tollbarref22_ReplyMay_16, r_tollbarref22_ReplyMay_17, r_tollbarref22_ReplyMay_18, r_tollbarref22_ReplyMay_19, r_tollbarref22_ReplyMay_20, r_tollbarref22_ReplyMay_21, h3, a]
      refine hs.callR1 [] (by simp [plainR, h3]) rfl ?_
      simp -implicitDefEqProofs [c_tollbarref22_ReplyMay, r_tollbarref22_ReplyMay_0, r_tollbarref22_ReplyMay_1, r_tollbarref22_ReplyMay_2, r_tollbarref22_ReplyMay_3, r_tollbarref22_ReplyMay_4, r_tollbarref22_ReplyMay_5, r_tollbarref22_ReplyMay_6, r_tollbarref22_ReplyMay_7, r_tollbarref22_ReplyMay_8, r_tollbarref22_ReplyMay_9, r_tollbarref22_ReplyMay_10, r_tollbarref22_ReplyMay_11, r_tollbarref22_ReplyMay_12, r_tollbarref22_ReplyMay_13, r_tollbarref22_ReplyMay_14, r_tollbarref22_ReplyMay_15, r_tollbarref22_ReplyMay_16, r_tollbarref22_ReplyMay_17, r_tollbarref22_ReplyMay_18, r_tollbarref22_ReplyMay_19, r_tollbarref22_ReplyMay_20, r_tollbarref22_ReplyMay_21, h3, a, replyMay22, is22]
  by_cases h4 : rKind r = 4
  · simp -implicitDefEqProofs [c_tollbarref22_ReplyMay, r_tollbarref22_ReplyMay_0, r_tollbarref22_ReplyMay_1, r_tollbarref22_ReplyMay_2, r_tollbarref22_ReplyMay_3, r_tollbarref22_ReplyMay_4, r_tollbarref22_ReplyMay_5, r_tollbarref22_ReplyMay_6, r_tollbarref22_ReplyMay_7, r_tollbarref22_ReplyMay_8, r_tollbarref22_ReplyMay_9, r_tollbarref22_ReplyMay_10, r_tollbarref22_ReplyMay_11, r_tollbarref22_ReplyMay_12, r_tollbarref22_ReplyMay_13, r_tollbarref22_ReplyMay_14, r_tollbarref22_ReplyMay_15, r_tollbarref22_ReplyMay_16, r_tollbarref22_ReplyMay_17, r_tollbarref22_ReplyMay_18, r_tollbarref22_ReplyMay_19, r_tollbarref22_ReplyMay_20, r_tollbarref22_ReplyMay_21, h4]
    refine hs.callR1 [] (by simp [plainR, h4]) rfl ?_
    simp -implicitDefEqProofs [c_tollbarref22_ReplyMay, r_tollbarref22_ReplyMay_0, r_tollbarref22_ReplyMay_1, r_tollbarref22_ReplyMay_2, r_tollbarref22_ReplyMay_3, r_tollbarref22_ReplyMay_4, r_tollbarref22_ReplyMay_5, r_tollbarref22_ReplyMay_6, r_tollbarref22_ReplyMay_7, r_tollbarref22_ReplyMay_8, r_tollbarref22_ReplyMay_9, r_tollbarref22_ReplyMay_10, r_tollbarref22_ReplyMay_11, r_tollbarref22_ReplyMay_12, r_tollbarref22_ReplyMay_13, r_tollbarref22_ReplyMay_14, r_tollbarref22_ReplyMay_15, r_tollbarref22_ReplyMay_16, r_tollbarref22_ReplyMay_17, r_tollbarref22_ReplyMay_18, r_tollbarref22_ReplyMay_19, r_tollbarref22_ReplyMay_20, r_tollbarref22_ReplyMay_21, h4, replyMay22, is22]
  by_cases h5 : rKind r = 5
  · simp -implicitDefEqProofs [c_tollbarref22_ReplyMay, r_tollbarref22_ReplyMay_0, r_tollbarref22_ReplyMay_1, r_tollbarref22_ReplyMay_2, r_tollbarref22_ReplyMay_3, r_tollbarref22_ReplyMay_4, r_tollbarref22_ReplyMay_5, r_tollbarref22_ReplyMay_6, r_tollbarref22_ReplyMay_7, r_tollbarref22_ReplyMay_8, r_tollbarref22_ReplyMay_9, r_tollbarref22_ReplyMay_10, r_tollbarref22_ReplyMay_11, r_tollbarref22_ReplyMay_12, r_tollbarref22_ReplyMay_13, r_tollbarref22_ReplyMay_14, r_tollbarref22_ReplyMay_15, r_tollbarref22_ReplyMay_16, r_tollbarref22_ReplyMay_17, r_tollbarref22_ReplyMay_18, r_tollbarref22_ReplyMay_19, r_tollbarref22_ReplyMay_20, r_tollbarref22_ReplyMay_21, h5]
    refine (p_Rate (rValue r)).call1 (by simp) ?_
    cases a : rateIs (rValue r)
    · simp -implicitDefEqProofs [c_tollbarref22_ReplyMay, r_tollbarref22_ReplyMay_0, r_tollbarref22_ReplyMay_1, r_tollbarref22_ReplyMay_2, r_tollbarref22_ReplyMay_3, r_tollbarref22_ReplyMay_4, r_tollbarref22_ReplyMay_5, r_tollbarref22_ReplyMay_6, r_tollbarref22_ReplyMay_7, r_tollbarref22_ReplyMay_8, r_tollbarref22_ReplyMay_9, r_tollbarref22_ReplyMay_10, r_tollbarref22_ReplyMay_11, r_tollbarref22_ReplyMay_12, r_tollbarref22_ReplyMay_13, r_tollbarref22_ReplyMay_14, r_tollbarref22_ReplyMay_15, r_tollbarref22_ReplyMay_16, r_tollbarref22_ReplyMay_17, r_tollbarref22_ReplyMay_18, r_tollbarref22_ReplyMay_19, r_tollbarref22_ReplyMay_20, r_tollbarref22_ReplyMay_21, h5, a, replyMay22, is22]
    · simp -implicitDefEqProofs [c_tollbarref22_ReplyMay, r_tollbarref22_ReplyMay_0, r_tollbarref22_ReplyMay_1, r_tollbarref22_ReplyMay_2, r_tollbarref22_ReplyMay_3, r_tollbarref22_ReplyMay_4, r_tollbarref22_ReplyMay_5, r_tollbarref22_ReplyMay_6, r_tollbarref22_ReplyMay_7, r_tollbarref22_ReplyMay_8, r_tollbarref22_ReplyMay_9, r_tollbarref22_ReplyMay_10, r_tollbarref22_ReplyMay_11, r_tollbarref22_ReplyMay_12, r_tollbarref22_ReplyMay_13, r_tollbarref22_ReplyMay_14, r_tollbarref22_ReplyMay_15, r_tollbarref22_ReplyMay_16, r_tollbarref22_ReplyMay_17, r_tollbarref22_ReplyMay_18, r_tollbarref22_ReplyMay_19, r_tollbarref22_ReplyMay_20, r_tollbarref22_ReplyMay_21, h5, a]
      refine hs.callR1 [] (by simp [plainR, h5]) rfl ?_
      simp -implicitDefEqProofs [c_tollbarref22_ReplyMay, r_tollbarref22_ReplyMay_0, r_tollbarref22_ReplyMay_1, r_tollbarref22_ReplyMay_2, r_tollbarref22_ReplyMay_3, r_tollbarref22_ReplyMay_4, r_tollbarref22_ReplyMay_5, r_tollbarref22_ReplyMay_6, r_tollbarref22_ReplyMay_7, r_tollbarref22_ReplyMay_8, r_tollbarref22_ReplyMay_9, r_tollbarref22_ReplyMay_10, r_tollbarref22_ReplyMay_11, r_tollbarref22_ReplyMay_12, r_tollbarref22_ReplyMay_13, r_tollbarref22_ReplyMay_14, r_tollbarref22_ReplyMay_15, r_tollbarref22_ReplyMay_16, r_tollbarref22_ReplyMay_17, r_tollbarref22_ReplyMay_18, r_tollbarref22_ReplyMay_19, r_tollbarref22_ReplyMay_20, r_tollbarref22_ReplyMay_21, h5, a, replyMay22, is22]
  simp -implicitDefEqProofs [c_tollbarref22_ReplyMay, r_tollbarref22_ReplyMay_0, r_tollbarref22_ReplyMay_1, r_tollbarref22_ReplyMay_2, r_tollbarref22_ReplyMay_3, r_tollbarref22_ReplyMay_4, r_tollbarref22_ReplyMay_5, r_tollbarref22_ReplyMay_6, r_tollbarref22_ReplyMay_7, r_tollbarref22_ReplyMay_8, r_tollbarref22_ReplyMay_9, r_tollbarref22_ReplyMay_10, r_tollbarref22_ReplyMay_11, r_tollbarref22_ReplyMay_12, r_tollbarref22_ReplyMay_13, r_tollbarref22_ReplyMay_14, r_tollbarref22_ReplyMay_15, r_tollbarref22_ReplyMay_16, r_tollbarref22_ReplyMay_17, r_tollbarref22_ReplyMay_18, r_tollbarref22_ReplyMay_19, r_tollbarref22_ReplyMay_20, r_tollbarref22_ReplyMay_21, h1, h2, h3, h4, h5, replyMay22, is22]
end Go.Proofs.Ytnjmdkecpadehaa
