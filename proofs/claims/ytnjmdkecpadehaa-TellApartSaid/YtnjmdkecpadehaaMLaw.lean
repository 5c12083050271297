/- The framework M, twenty-first text: from M's run of a law to the walk that a statement asks for. Conditions: as the laws say. -/
import Derived.Test.YtnjmdkecpadehaaMData
set_option linter.all false
set_option linter.unusedSimpArgs false
namespace Go.Proofs.Ytnjmdkecpadehaa.M
open Go.ChangeShapes Go.WideShapes Go.ChangeAt Go.RowKit

theorem Stands.none (W : World) : Stands (fun _ => none) Heap.none W :=
  ⟨⟨fun b row e => (by cases e), fun b row p b' row' p' e => (by cases e), fun b row e => (by cases e)⟩, fun b row e => (by cases e), fun b _ => rfl⟩
/-- M's run answers true: so does the program, and all that was there stays. -/
theorem Stands.walk {P : Program} {F : Nat → Option Fun} (hF : Funs P F) {φ : Phi} {H : Heap} {W : World} (hst : Stands φ H W) {f : Nat} {vs : List Value} {args : Array Value} (hl : LR (VR φ) vs args.toList)
    (hc : Cw F f vs H fun v _ => v = .bool true) : Calls P f args W fun e W' => e = .returned (.bool true) ∧ Below W.heap.size W W' := by
  obtain ⟨n, v, H', h1, rfl⟩ := hc
  obtain ⟨_, h2⟩ := callN_spec hF n f vs H _ H' h1
  refine (h2 φ W args hl hst.rel (fun b h3 _ => hst.tight b h3)).mono ?_
  rintro e W' ⟨v', φ', rfl, k1, k2, k3⟩
  obtain rfl := k1.bool
  refine ⟨rfl, k3.os, k3.tape, k3.output, k3.size, fun k hk => (k3.keep k hk ?_).1⟩
  rintro ⟨b, row, p, e1, e2, _⟩
  rw [hst.ro b row e1] at e2
  cases e2
section
variable {E : Type} {enc : TypeId × Value → E} {P : Program} {W : World} {held : Bool}
theorem shapeFs_width {rec : TypeId → Option Sh} : ∀ {fs : List Field} {off tot : Nat} {s : Sh}, shapeFs P rec fs off tot = some s → off + s.width = tot
  | [], off, tot, s, hs => by
    unfold shapeFs at hs
    rw [cond_eq_ite] at hs
    split at hs <;> cases hs
    rename_i hb
    rw [beq_eq, decide_eq_true_eq] at hb
    simp [Sh.width, hb]
  | f :: r, off, tot, s, hs => by
    unfold shapeFs at hs
    split at hs <;> try cases hs
    rw [cond_eq_ite] at hs
    split at hs <;> try cases hs
    split at hs <;> cases hs
    rename_i h2
    have := shapeFs_width h2
    simp only [Sh.width]
    omega
theorem open_struct {t : TypeId} {fs : Array Field} (ht : P.underlying t = some (.struct fs)) {r : Reach} {base : Nat} {v : Value} {d : DataW E} {ps : List MemPlace} (hv : Value.okWide P W r base t v)
    (h : DataW.Trod enc P W 0 (fun _ => true) held t v d ps) {n : Nat} {s : Sh} (hs : shapeOf P n t = some s) {φ : Phi} {H : Heap} (hst : Stands φ H W) :
    ∃ (φ' : Phi) (H' : Heap) (x : Dat s) (cs : List Value), Le φ φ' ∧ Keeps H H' ∧ Stands φ' H' W ∧ Den H' s x cs ∧ VR φ' (.agg cs.toArray) v ∧ bulk s x ≤ Rows.uptoBulk d ∧ ∀ B, (∀ n ∈ d.weights P t, n ≤ B) → fitS B s x := by
  obtain ⟨cs0, rfl, hsz⟩ := okWide_struct ht hv
  obtain ⟨fuel, hf⟩ := h
  cases n with
  | zero => simp [shapeOf] at hs
  | succ n =>
    have hw : (Value.agg cs0).cells.toList.length = s.width := by
      have hs' := hs
      unfold shapeOf at hs'
      simp only [ht] at hs'
      have := shapeFs_width hs'
      simp only [Value.cells, Array.length_toList, hsz]
      omega
    obtain ⟨φ', H', x, cs, h1, h2, h3, h4, h5, h6⟩ := opens (fun _ => rfl) fuel t _ d ps hf (n + 1) s hs hw φ H hst
    exact ⟨φ', H', x, cs, h1, h2, h3, h4, ⟨cs0, rfl, by simpa [Value.cells] using h5⟩, h6⟩
theorem open_cell {t : TypeId} {v : Value} {d : DataW E} {ps : List MemPlace} (hv : v.cells = #[v]) (h : DataW.Trod enc P W 0 (fun _ => true) held t v d ps) {n : Nat} {s : Sh} (hs : shapeOf P n t = some s) (hw : s.width = 1) {φ : Phi} {H : Heap} (hst : Stands φ H W) :
    ∃ (φ' : Phi) (H' : Heap) (x : Dat s) (u : Value), Le φ φ' ∧ Keeps H H' ∧ Stands φ' H' W ∧ Den H' s x [u] ∧ VR φ' u v ∧ bulk s x ≤ Rows.uptoBulk d ∧ ∀ B, (∀ n ∈ d.weights P t, n ≤ B) → fitS B s x := by
  obtain ⟨fuel, hf⟩ := h
  rw [hv] at hf
  obtain ⟨φ', H', x, cs, h1, h2, h3, h4, h5, h6⟩ := opens (fun _ => rfl) fuel t _ d ps hf n s hs (by rw [hw]; rfl) φ H hst
  match cs, h4, h5 with
  | [u], h4, h5 => exact ⟨φ', H', x, u, h1, h2, h3, h4, VR.of_VR0 h5.1, h6⟩
  | [], h4, h5 => exact h5.elim
  | _ :: _ :: _, h4, h5 => exact h5.2.elim
/-- An argument that reads as it did. -/
theorem reads_on {t : TypeId} {v : Value} {d : DataW E} {ps : List MemPlace} {W' : World} (hl : laidOutB P = true) (hr : P.readableRec t = true) (hrow : t < P.types.size) (h : DataW.Trod enc P W 0 (fun _ => true) true t v d ps) (hb : Below W.heap.size W W') :
    DataW.Trod enc P W' 0 (fun b => decide (b < W.heap.size)) true t v d ps :=
  Below.trod hl hr hrow h hb (by obtain ⟨m, hm⟩ := h; exact DataW.trod_lt m _ _ _ hm)
end

end Go.Proofs.Ytnjmdkecpadehaa.M
