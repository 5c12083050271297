/- The framework M, fifth text: each operation that neither reads nor makes memory answers as M says, all in one. Conditions: the look 'okOp' at the operation. -/
import Derived.Test.YtnjmdkecpadehaaMCalm
set_option linter.all false
set_option linter.unusedSimpArgs false
namespace Go.Proofs.Ytnjmdkecpadehaa.M

theorem run_bin {P : Program} {op : BinOp} {t : TypeId} {x y r : Value} (h : binV op x y = some r) (w : World) : (binOp op t x y).run P w = .ok r w := by
  unfold binV at h
  split at h
  · rename_i k a k' b
    split at h
    · rename_i hs
      unfold shiftBy at h
      split at h
      · cases h
      · rename_i hb
        cases op <;> simp [isShift] at hs <;> cases h <;> simp [binOp, Op.shift, hb]
    · rename_i hs
      split at h
      · rename_i hk
        subst hk
        unfold intOp at h
        cases op <;> simp [isShift] at hs <;> simp only at h <;> first
          | (cases h; simp [binOp, Op.intArith, Op.intBits, Op.intCmp]; done)
          | (split at h; cases h; rename_i hb; cases h; simp [binOp, Op.intDiv, hb])
      · cases h
  · rename_i a b
    unfold strOp at h
    cases op <;> simp only at h <;> first
      | (cases h; simp [binOp, Op.stringOp]; done)
      | (cases h; done)
      | (split at h; rename_i hl; cases h; have : ¬ ((a.size + b.size : Nat) : Int) > IntKind.i64.max := (by simp only [show IntKind.i64.max = 9223372036854775807 from rfl]; omega); simp only [binOp, Op.stringOp, if_neg this, Sem.run_pure]; cases h)
  · cases h
theorem run_eqGuard_plain {P : Program} {op : BinOp} {t : TypeId} {x y : Operand} {a b : Value} (h1 : a ≠ .nilIface) (h2 : ∀ c, a ≠ .agg c) (w : World) : (eqGuard op t x y a b).run P w = .ok () w := by
  unfold eqGuard
  cases op <;> cases a <;> first
    | rfl
    | exact absurd rfl h1
    | exact absurd rfl (h2 _)
    | (cases b <;> rfl)
/-- A value that may lack. -/
def OV (φ : Phi) : Option Value → Option Value → Prop
  | none, o => o = none
  | some u, o => ∃ u', o = some u' ∧ VR φ u u'
theorem evo_spec {φ : Phi} {e : Env} {a : Act} (he : EnvR φ e a.tmps) {x : Option Operand} {y : Option X} (h : okO x y = true) {v : Option Value} (hv : evo e y = some v) : OV φ v (x.map a.eval) := by
  unfold okO at h
  split at h
  · cases hv; rfl
  · unfold evo at hv
    simp only at hv
    split at hv
    · rename_i u hu; cases hv; exact ⟨_, rfl, okX_ev he h hu⟩
    · cases hv
  · cases h
theorem bound_spec {φ : Phi} {o o' : Option Value} {y d z : Nat} (h : bound o y d = some z) (k : OV φ o o') : (o = none ∧ o' = none ∧ z = d) ∨ ∃ k i, o ≠ none ∧ o' = some (.int k i) ∧ 0 ≤ i ∧ i ≤ y ∧ z = i.toNat := by
  unfold bound at h
  split at h
  · cases h; exact .inl ⟨rfl, k, rfl⟩
  · rename_i k0 i
    split at h
    · rename_i hb
      cases h
      obtain ⟨u', rfl, hu⟩ := k
      obtain rfl := hu.int
      exact .inr ⟨k0, i, by simp, rfl, hb.1, hb.2, rfl⟩
    · cases h
  · cases h
theorem run_sliceBound {P : Program} {k : IntKind} {i : Int} {y : Nat} (h : 0 ≤ i ∧ i ≤ y) (code : BoundsCode) (w : World) : (Instr.sliceBound (.int k i) y code).run P w = .ok i.toNat w := by
  simp [Instr.sliceBound, asIntOf, h]
/-- Bounds, as M has them at its capacity; the true one is no less. -/
theorem run_sliceBounds {P : Program} {φ : Phi} {isS : Bool} {n c c' : Nat} {lo hi top : Option Value} {lo' hi' top' : Option Value} {l h m : Nat}
    (hc : c ≤ c') (e1 : bound top c c = some m) (e2 : bound hi m n = some h) (e3 : bound lo h 0 = some l)
    (r1 : OV φ lo lo') (r2 : OV φ hi hi') (r3 : OV φ top top') (htop : top ≠ none → hi ≠ none) (w : World) :
    ∃ m', (Instr.sliceBounds isS n c' lo' hi' top').run P w = .ok (l, h, m') w ∧ m ≤ m' ∧ (top ≠ none → m' = m) ∧ (top = none → m' = c' ∧ m = c) ∧ l ≤ h ∧ (hi ≠ none → h ≤ m) ∧ (hi = none → h = n) ∧ m' ≤ c' ∧ m ≤ c := by
  rcases bound_spec e1 r3 with ⟨rfl, rfl, rfl⟩ | ⟨k3, i3, h3, rfl, g1, g2, rfl⟩
  · rcases bound_spec e2 r2 with ⟨rfl, rfl, rfl⟩ | ⟨k2, i2, h2, rfl, f1, f2, rfl⟩
    · rcases bound_spec e3 r1 with ⟨rfl, rfl, rfl⟩ | ⟨k1, i1, h1, rfl, d1, d2, rfl⟩
      · exact ⟨c', by simp [Instr.sliceBounds], hc, by simp, by simp, by omega, by simp, by simp, Nat.le_refl _, Nat.le_refl _⟩
      · exact ⟨c', by simp [Instr.sliceBounds, run_sliceBound (show 0 ≤ i1 ∧ i1 ≤ (h : Int) from ⟨d1, by omega⟩)], hc, by simp, by simp, by omega, by simp, by simp, Nat.le_refl _, Nat.le_refl _⟩
    · have hb : 0 ≤ i2 ∧ i2 ≤ (c' : Int) := ⟨f1, by omega⟩
      rcases bound_spec e3 r1 with ⟨rfl, rfl, rfl⟩ | ⟨k1, i1, h1, rfl, d1, d2, rfl⟩
      · exact ⟨c', by simp [Instr.sliceBounds, run_sliceBound hb], hc, by simp, by simp, by omega, fun _ => by omega, fun e => absurd e h2, Nat.le_refl _, Nat.le_refl _⟩
      · exact ⟨c', by simp [Instr.sliceBounds, run_sliceBound hb, run_sliceBound (show 0 ≤ i1 ∧ i1 ≤ ((i2.toNat : Nat) : Int) from ⟨d1, by omega⟩)], hc, by simp, by simp, by omega, fun _ => by omega, fun e => absurd e h2, Nat.le_refl _, Nat.le_refl _⟩
  · have hb3 : 0 ≤ i3 ∧ i3 ≤ (c' : Int) := ⟨g1, by omega⟩
    rcases bound_spec e2 r2 with ⟨rfl, rfl, rfl⟩ | ⟨k2, i2, h2, rfl, f1, f2, rfl⟩
    · exact absurd rfl (htop h3)
    · have hb : 0 ≤ i2 ∧ i2 ≤ ((i3.toNat : Nat) : Int) := ⟨f1, by omega⟩
      rcases bound_spec e3 r1 with ⟨rfl, rfl, rfl⟩ | ⟨k1, i1, h1, rfl, d1, d2, rfl⟩
      · exact ⟨i3.toNat, by simp [Instr.sliceBounds, run_sliceBound hb3, run_sliceBound hb], Nat.le_refl _, by simp, fun e => absurd e h3, by omega, fun _ => by omega, fun e => absurd e h2, by omega, by omega⟩
      · exact ⟨i3.toNat, by simp [Instr.sliceBounds, run_sliceBound hb3, run_sliceBound hb, run_sliceBound (show 0 ≤ i1 ∧ i1 ≤ ((i2.toNat : Nat) : Int) from ⟨d1, by omega⟩)], Nat.le_refl _, by simp, fun e => absurd e h3, by omega, fun _ => by omega, fun e => absurd e h2, by omega, by omega⟩

end Go.Proofs.Ytnjmdkecpadehaa.M
