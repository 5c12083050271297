/- The law Tells: closing. -/
import Derived.Test.YtnjmdkecpadehaaU15
import Derived.Test.YtnjmdkecpadehaaRows
import Derived.WalkKit
import Derived.ProofKit
import Derived.OpenShut
import Derived.ShutString
import Derived.ChangeOld
import Derived.Below
import Derived.SizedLaws
set_option linter.all false
namespace Go.Proofs.Ytnjmdkecpadehaa
open M
theorem laidOut : laidOutB Try.prog = true := by kernel_rfl
theorem own : ownKnob Try.prog.godebug = none := by kernel_rfl
theorem sh_Reply : shapeOf Try.prog 20 29 = some shReply := by kernel_rfl
theorem fits_bytes {B : Nat} (hB : B ≤ 140737488355328) {r : Reply} (h : fitS B shReply r) : bytesR r := by
  obtain ⟨_, ⟨_, h1, _⟩, _, _, _, _, _, h2, _⟩ := h
  obtain ⟨h3, h4⟩ := h2
  have e1 : shI.bytes = 8 := by decide
  have e2 : shPiece.bytes = 40 := by decide
  have e3 : shPath.bytes = 32 := by decide
  have h1 := h1.1
  rw [e1] at h1
  rw [e2] at h3
  refine ⟨Nat.le_trans h1 hB, Nat.le_trans h3 hB, fun p hp => ?_⟩
  obtain ⟨_, h5, _⟩ := h4 p hp
  obtain ⟨h5, h6⟩ := h5
  rw [e3] at h5
  refine ⟨Nat.le_trans h5 hB, fun w hw => ?_⟩
  obtain ⟨_, h7, _⟩ := h6 w hw
  have h7 := h7.1
  rw [e1] at h7
  exact Nat.le_trans h7 hB
namespace tells
open Go.ChangeShapes Go.WideShapes Go.ChangeAt Go.RowKit
set_option maxRecDepth 100000 in
theorem lifted (os : Os) (started : os.Started) (H : Type) (enc : TypeId × Value → H) :
    ReturnsInHanded {} Try.checked os 3 .any (Rows.tellsSpec.pre6 enc Try.prog Try.f3 Rows.tellsRow.domain false) (Rows.tellsSpec.post enc Try.prog Try.f3 false true false false) := by
  refine returnsInHanded_of_change_sized (C := Try.checked) own started (by kernel_rfl) Try.func3
    (ChangeSpec.witness6 (enc := enc) (C := Try.checked) false ⟨#[], #[.agg #[.int .i64 0, .int .i64 0, .int .i64 0, .slice none 0 0, .int .i64 0, .int .i64 0, .int .i64 0, .int .i64 0, .int .i64 0, .slice none 0 0]], []⟩ 8 (by kernel_rfl) (by kernel_rfl) (by kernel_rfl) (by kernel_rfl)) ?_
  intro W base args ds gs before hval0 hW hcnd hsz0 _
  have hval : ∀ (j : Nat) t v, Try.f3.params[j]? = some t → args[j]? = some v → Value.okWide Try.prog W .any base t v := hval0
  have hW' := hW
  obtain ⟨p, q, hA0, hV, rfl, hfz, hnd⟩ := hW
  have hA : DataW.TrodAll enc Try.prog W 0 (fun _ => true) true Try.f3.params.toList args.toList ds p := hA0
  rw [Try.params3] at hA hval
  obtain ⟨v0, vs0, d0, ds0, p0, q0, hargs, rfl, rfl, h0, r0⟩ := trodAll_cons hA
  obtain ⟨rfl, rfl, rfl⟩ := trodAll_nil r0
  obtain rfl : args = #[v0] := by cases args; simp_all
  obtain ⟨rfl, rfl⟩ := trodVars_none hV
  have hsz : (DataW.weightsEach Try.prog (Try.f3.params.toList ++ Rows.tellsSpec.plain.varTypes Try.prog) ([d0] ++ [])).all (· ≤ reachBytes) = true := hsz0
  rw [Try.params3] at hsz
  have hw0 : ∀ n ∈ d0.weights Try.prog 29, n ≤ reachBytes := fun n hn => by
    simpa using List.all_eq_true.1 hsz n (DataW.weights_mem_each (j := 0) rfl rfl n hn)
  obtain ⟨φ, H1, x, cs, l1, k1, st, dn, vr, bk, ft⟩ := open_struct Try.underlying29 (hval 0 29 v0 rfl rfl) h0 sh_Reply (Stands.none W)
  have run := (p_Tells x (fits_bytes (by decide) (ft _ hw0))).law st.rel.ok (us := [.agg cs.toArray]) ⟨dn.agg, trivial⟩
  refine (st.walk held (vs := [.agg cs.toArray]) (args := #[v0]) ⟨vr, trivial⟩ run).mono fun e W' ⟨he, bel⟩ => ?_
  subst he
  exact ⟨_, rfl, _, _, _, [], _, [], hW', trodAll_mk1 (shut_bool Try.underlying4 _), (trodAll_cons_mk (reads_on laidOut (by kernel_rfl) (of_decide_eq_true (by kernel_rfl)) h0 bel) trodAll_mk0), rfl, bel.frame _, fun h => by cases h⟩
theorem over : Rows.tellsRow.holds Try.pinned (OpenSpec.ofChange Rows.tellsSpec) :=
  OpenClaim.holds_of_wide 3 Try.f3 rfl rfl rfl rfl rfl rfl rfl ⟨rfl, rfl, rfl, rfl, rfl⟩ rfl rfl rfl rfl rfl (by kernel_rfl) Try.func3 (by kernel_rfl)
    (of_decide_eq_true (by kernel_rfl)) (by unfold Func.isWrapper; first | (rw [if_pos (by decide +kernel)]; kernel_rfl) | (rw [if_neg (by decide +kernel)]; exact ⟨rfl, rfl⟩))
    (fun os started H enc _ => lifted os started H enc)
theorem proved : Rows.TellsSaid := over
#print axioms proved
end tells
end Go.Proofs.Ytnjmdkecpadehaa
