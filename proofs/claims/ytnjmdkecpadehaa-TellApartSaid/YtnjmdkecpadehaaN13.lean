/- The framework N, thirteenth text: from a contract of a law to the run that a statement asks for. -/
import Derived.Test.YtnjmdkecpadehaaN12
set_option linter.all false
namespace Go.Proofs.Ytnjmdkecpadehaa.M
theorem Den.rdF {H : Heap} : ∀ {s : Sh} {x : Dat s} {cs : List Value}, Den H s x cs → RdF H.get s x cs
  | .int _, _, _, k => k.1
  | .bool, _, _, k => k
  | .str, _, _, k => k.1
  | .unit, _, _, k => k
  | .pair a b, (x, y), cs, ⟨c1, c2, e, k1, k2⟩ => ⟨c1, c2, e, k1.rdF, k2.rdF⟩
  | .sl s, l, cs, k => by
    rcases k with ⟨e, a, k1, k2⟩ | ⟨b, cells, k1, k2, k3, k4, k5⟩
    · subst e
      exact ⟨.slice a 0 0, [], k1, .inl ⟨rfl, rfl, a, rfl, fun x hx => (k2 x hx).1⟩, rfl⟩
    · exact ⟨_, cells, k1, .inr ⟨b, 0, _, _, rfl, k3, rfl, Nat.le_refl _, by simp [k4], by rw [List.drop_zero, List.take_of_length_le (by simp [k4])]⟩, k5.imp fun _ _ => Den.rdF⟩
theorem Den.agg {H : Heap} {s : Sh} {x : Dat s} {cs : List Value} (h : Den H s x cs) : N3 noPhi H.get (.agg (cellsN s x)) (.agg cs.toArray) :=
  ⟨cs.toArray, rfl, by simpa using (h.rdF.l2 (φ := noPhi))⟩
theorem Den.cell {H : Heap} {s : Sh} {x : Dat s} {u : Value} (h : Den H s x [u]) {w : NV} (hw : cellsN s x = [w]) : N3 noPhi H.get w u := by
  have := h.rdF.l2 (φ := noPhi)
  rw [hw] at this
  exact .of0 this.1
theorem Den.up {H H' : Heap} (h : Keeps H H') {x : NV} {u : Value} (k : N3 noPhi H.get x u) : N3 noPhi H'.get x u := N3.mono (NPhi.le_refl _) (fun b row e => h.2 b row e) k
theorem Pure.law {F : Nat → Option Fun} {f : Nat} {vs : List NV} (k : Pure F f vs (.v (.bool true))) {H : Heap} (ho : H.ok) {us : List Value} (hv : L2 (N3 noPhi H.get) vs us) : Cw F f us H fun v _ => v = .bool true :=
  (k H.get H us ho (View.le_refl _) hv).mono fun u H' ⟨_, _, _, V', w, _, _, _, h, e⟩ => by
    subst e
    exact (N3.v h).1
end Go.Proofs.Ytnjmdkecpadehaa.M
