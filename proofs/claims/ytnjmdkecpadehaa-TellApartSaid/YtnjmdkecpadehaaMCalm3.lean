/- The framework M, sixth text: each operation that neither reads nor makes memory answers as M says, all in one. Conditions: the look 'okOp' at the operation. -/
import Derived.Test.YtnjmdkecpadehaaMCalm2
set_option linter.all false
set_option linter.unusedSimpArgs false
namespace Go.Proofs.Ytnjmdkecpadehaa.M

theorem foldl_set (off : Nat) : ∀ (l : List Value) (k : Nat) (cs : Array Value), off + k + l.length ≤ cs.size →
    ((l.zipIdx k).foldl (fun (cs : Array Value) (p : Value × Nat) => cs.setIfInBounds (off + p.2) p.1) cs).toList = cs.toList.take (off + k) ++ l ++ cs.toList.drop (off + k + l.length)
  | [], k, cs, h => by simp
  | v :: l, k, cs, h => by
    simp only [List.length_cons] at h
    rw [List.zipIdx_cons, List.foldl_cons, foldl_set off l (k + 1) _ (by simp; omega)]
    apply List.ext_getElem?
    intro i
    simp only [Array.toList_setIfInBounds, List.length_cons]
    simp only [List.append_assoc, List.getElem?_append, List.length_take, List.length_set, Array.length_toList, List.getElem?_take, List.getElem?_set, List.getElem?_drop, List.cons_append, List.length_append, List.length_cons]
    have e1 : min (off + (k + 1)) cs.size = off + k + 1 := by omega
    have e2 : min (off + k) cs.size = off + k := by omega
    simp only [e1, e2]
    by_cases h1 : i < off + k
    · have : ¬ off + k = i := by omega
      simp [h1, show i < off + k + 1 by omega, show i < off + (k + 1) by omega, this]
    · by_cases h2 : i = off + k
      · subst h2
        simp [show off + k < cs.size by omega]
      · have h3 : ¬ i < off + k + 1 := by omega
        obtain ⟨j, rfl⟩ : ∃ j, i = off + k + 1 + j := ⟨i - (off + k + 1), by omega⟩
        have a1 : off + k + 1 + j - (off + k) = j + 1 := by omega
        have a2 : off + k + 1 + j - (off + k + 1) = j := by omega
        simp only [h1, h3, if_false, a1, a2, List.getElem?_cons_succ]
        rw [List.getElem?_append]
        by_cases h4 : j < l.length
        · simp [h4]
        · simp only [h4, if_false, List.getElem?_drop]
          have a3 : ¬ off + k = off + (k + 1) + l.length + (j - l.length) := by omega
          simp only [a3, if_false]
          congr 1
          omega
theorem fill_one (off : Nat) (v : Value) (cs : Array Value) (h : off + v.cells.size ≤ cs.size) :
    (v.cells.zipIdx.foldl (fun (cs : Array Value) (p : Value × Nat) => cs.setIfInBounds (off + p.2) p.1) cs).toList = splice cs.toList off v.cells.toList := by
  have := foldl_set off v.cells.toList 0 cs (by simpa using h)
  simp only [Nat.add_zero] at this
  rw [splice, ← this, ← Array.foldl_toList]
  congr 2
  simp [Array.toList_zipIdx]
theorem LR.spliced {Q : Value → Value → Prop} {x y a b : List Value} (off : Nat) (h : LR Q x y) (k : LR Q a b) : LR Q (splice x off a) (splice y off b) := by
  unfold splice
  rw [k.length]
  exact ((h.take off).append k).append (h.drop _)
/-- Parts related one by one. -/
def PR (φ : Phi) (place : Nat → Option (Nat × Nat)) : List (Nat × Nat × Value) → List (Nat × Value) → Prop
  | [], [] => True
  | (off, n, v) :: r, (i, v') :: s => place i = some (off, n) ∧ VR φ v v' ∧ PR φ place r s
  | _, _ => False
theorem fill_spec {φ : Phi} {place : Nat → Option (Nat × Nat)} : ∀ {vs : List (Nat × Nat × Value)} {ps : List (Nat × Value)} {z z' out : List Value}, PR φ place vs ps → LR (VR0 φ) z z' → fillM vs z = some out →
    ∃ out', Instr.fill place z'.toArray ps = some (List.toArray out') ∧ LR (VR0 φ) out out'
  | [], [], z, z', out, _, hz, h => by cases h; exact ⟨z', rfl, hz⟩
  | (off, n, v) :: r, (i, v') :: s, z, z', out, hp, hz, h => by
    obtain ⟨h1, h2, h3⟩ := hp
    unfold fillM at h
    split at h
    · rename_i cs hcs
      have hl := h2.cells hcs
      have hlen := hl.length
      simp only [beq_eq] at h
      cases hb : (decide (cs.length = n) && Nat.ble (off + n) z.length) with
      | false => rw [hb] at h; cases h
      | true =>
        rw [hb, cond_true] at h
        obtain ⟨b1, b2⟩ := ok_and hb
        rw [decide_eq_true_eq] at b1
        have b2 := Nat.le_of_ble_eq_true b2
        have hzl := hz.length
        have hsz : v'.cells.size = n := by rw [← b1, hlen]; simp
        obtain ⟨out', e, l⟩ := fill_spec h3 (hz.spliced off hl) h
        refine ⟨out', ?_, l⟩
        rw [Instr.fill]
        simp only [h1]
        rw [if_neg (by simp [hsz]; omega)]
        rw [← e]
        congr 1
        apply Array.ext'
        rw [fill_one off v' z'.toArray (by simp [hsz]; omega)]
    · cases h
  | [], _ :: _, _, _, _, hp, _, _ => hp.elim
  | _ :: _, [], _, _, _, hp, _, _ => hp.elim
theorem okParts_spec {P : Program} {φ : Phi} {e : Env} {a : Act} (he : EnvR φ e a.tmps) {fs : Array Field} {place : Nat → Option (Nat × Nat)}
    (hpl : ∀ i fd n, fs[i]? = some fd → szIs P fd.type n = true → place i = some (fd.offset, n)) : ∀ {ps : List (Nat × Operand)} {qs : List (Nat × Nat × X)}, okParts P fs ps qs = true →
    ∀ {vs : List (Nat × Nat × Value)}, evp e qs = some vs → PR φ place vs (ps.map fun p => (p.1, a.eval p.2))
  | [], [], _, vs, h => by cases h; exact trivial
  | (i, x) :: ps, (off, n, y) :: qs, hk, vs, h => by
    unfold evp at h
    split at h
    · rename_i v us h1 h2
      cases h
      simp only [okParts, Bool.and_eq_true] at hk
      obtain ⟨⟨k1, k2⟩, k3⟩ := hk
      split at k1
      · rename_i fd hfd
        obtain ⟨k4, k5⟩ := ok_and k1
        rw [beq_eq, decide_eq_true_eq] at k4
        subst k4
        exact ⟨hpl i fd n hfd k5, okX_ev he k2 h1, okParts_spec he hpl k3 h2⟩
      · cases k1
    · cases h
  | [], _ :: _, h, _, _ => by simp [okParts] at h
  | _ :: _, [], h, _, _ => by simp [okParts] at h
theorem okParts2_spec {φ : Phi} {e : Env} {a : Act} (he : EnvR φ e a.tmps) (es : Nat) : ∀ {ps : List (Nat × Operand)} {qs : List (Nat × X)}, okParts2 ps qs = true →
    ∀ {vs : List (Nat × Nat × Value)}, evp e (qs.map fun p => (p.1 * es, es, p.2)) = some vs → PR φ (fun i => some (i * es, es)) vs (ps.map fun p => (p.1, a.eval p.2))
  | [], [], _, vs, h => by cases h; exact trivial
  | (i, x) :: ps, (j, y) :: qs, hk, vs, h => by
    simp only [List.map_cons] at h
    unfold evp at h
    split at h
    · rename_i v us h1 h2
      cases h
      simp only [okParts2, Bool.and_eq_true] at hk
      obtain ⟨⟨k1, k2⟩, k3⟩ := hk
      rw [beq_eq, decide_eq_true_eq] at k1
      subst k1
      exact ⟨rfl, okX_ev he k2 h1, okParts2_spec he es k3 h2⟩
    · cases h
  | [], _ :: _, h, _, _ => by simp [okParts2] at h
  | _ :: _, [], h, _, _ => by simp [okParts2] at h
theorem run_mapM_places {P : Program} (w : World) : ∀ (l : List Field), (∀ f ∈ l, isSome' (P.info? f.type) = true) →
    (l.mapM fun f => do pure (f.offset, ← sizeOf f.type) : Sem (List (Nat × Nat))).run P w = .ok (l.map fun f => (f.offset, ((P.info? f.type).map (·.size)).getD 0)) w
  | [], _ => by simp
  | f :: l, h => by
    obtain ⟨i, hi⟩ := isSome'_spec (h f (by simp))
    simp [List.mapM_cons, sizeOf, typeInfo, hi]
    have := run_mapM_places w l (fun g hg => h g (by simp [hg]))
    simp [sizeOf, typeInfo] at this
    rw [this]
    simp
theorem minL_spec {P : Program} {φ : Phi} {k : IntKind} : ∀ {l l' : List Value} {a : Int} {v : Value}, LR (VR φ) l l' → minL k a l = some v → ∀ w, (l'.foldlM Builtin.min2 (.int k a)).run P w = .ok v w
  | [], l', a, v, h, e, w => by cases e; rw [LR.nil_left h]; rfl
  | x :: r, l', a, v, h, e, w => by
    obtain ⟨b, z, rfl, h1, h2⟩ := LR.cons_left h
    unfold minL at e
    split at e
    · rename_i h9; cases h9
    · rename_i kk b' r' h9
      cases h9
      obtain rfl := h1.int
      simp only [List.foldlM_cons, Sem.run_bind, Builtin.min2, Sem.run_pure, Result.andThen_ok]
      exact minL_spec h2 e w
    · cases e
theorem maxL_spec {P : Program} {φ : Phi} {k : IntKind} : ∀ {l l' : List Value} {a : Int} {v : Value}, LR (VR φ) l l' → maxL k a l = some v → ∀ w, (l'.foldlM Builtin.max2 (.int k a)).run P w = .ok v w
  | [], l', a, v, h, e, w => by cases e; rw [LR.nil_left h]; rfl
  | x :: r, l', a, v, h, e, w => by
    obtain ⟨b, z, rfl, h1, h2⟩ := LR.cons_left h
    unfold maxL at e
    split at e
    · rename_i h9; cases h9
    · rename_i kk b' r' h9
      cases h9
      obtain rfl := h1.int
      simp only [List.foldlM_cons, Sem.run_bind, Builtin.max2, Sem.run_pure, Result.andThen_ok]
      exact maxL_spec h2 e w
    · cases e

end Go.Proofs.Ytnjmdkecpadehaa.M
