/- The framework M, seventh text: the law of all operations that neither read nor make memory. Conditions: the look 'okOp' at the operation. -/
import Derived.Test.YtnjmdkecpadehaaMCalm3
set_option linter.all false
set_option linter.unusedSimpArgs false
namespace Go.Proofs.Ytnjmdkecpadehaa.M

theorem minL_int {k : IntKind} : ∀ {l : List Value} {a : Int} {v : Value}, minL k a l = some v → ∃ n, v = .int k n
  | [], a, v, h => by cases h; exact ⟨_, rfl⟩
  | x :: r, a, v, h => by
    unfold minL at h
    split at h
    · rename_i h9; cases h9
    · rename_i h9; cases h9; exact minL_int h
    · cases h
theorem maxL_int {k : IntKind} : ∀ {l : List Value} {a : Int} {v : Value}, maxL k a l = some v → ∃ n, v = .int k n
  | [], a, v, h => by cases h; exact ⟨_, rfl⟩
  | x :: r, a, v, h => by
    unfold maxL at h
    split at h
    · rename_i h9; cases h9
    · rename_i h9; cases h9; exact maxL_int h
    · cases h
theorem run_equal_bool {P : Program} {t : TypeId} (hu : P.underlying t = some .bool) (p q : Bool) (w : World) : (Op.equal t (.bool p) (.bool q)).run P w = .ok (p == q) w := by
  have h : ∀ d, (Op.equalIn (d + 1) t (.bool p) (.bool q)).run P w = .ok (p == q) w := fun d => by simp [Op.equalIn, run_underlying hu]
  exact h 9999
theorem run_equal_ptr {P : Program} {t el : TypeId} (hu : P.underlying t = some (.pointer el)) (p : Option Addr) (w : World) : (Op.equal t (.pointer p) (.pointer none)).run P w = .ok p.isNone w := by
  have h : ∀ d, (Op.equalIn (d + 1) t (.pointer p) (.pointer none)).run P w = .ok p.isNone w := fun d => by cases p <;> simp [Op.equalIn, run_underlying hu]
  exact h 9999
theorem usd_nil (ts : Array TypeId) (ty : TypeId) : Builtin.unsafeSliceData_ ts ty #[.slice none 0 0] = pure (.pointer none) := rfl
theorem usd_some (ts : Array TypeId) (ty : TypeId) (a : Addr) (n c : Nat) : Builtin.unsafeSliceData_ ts ty #[.slice (some a) n c] = (do
    if c ≠ 0 then pure (.pointer (some a))
    else if (← viewAt a.block).isSome then pure (.pointer (some a))
    else pure (.pointer (some ⟨← newObj (.view a (← elemOf ty)), 0, none⟩))) := rfl
theorem same_one (v : Value) : Extern.AbiNoEscape.same #[v] = pure v := rfl
theorem run_equal_ptr2 {P : Program} {t el : TypeId} {i : TypeInfo} (hu : P.underlying t = some (.pointer el)) (hi : P.info? el = some i) (p : Addr) (w : World) : (Op.equal t (.pointer (some p)) (.pointer (some p))).run P w = .ok true w := by
  have h : ∀ d, (Op.equalIn (d + 1) t (.pointer (some p)) (.pointer (some p))).run P w = .ok true w := fun d => by
    simp [Op.equalIn, run_underlying hu, sizeOf, typeInfo, hi, sameAddr]
  exact h 9999
/-- The operation yields a value of M's kind and leaves the world. -/
def Calm (P : Program) (φ : Phi) (a : Act) (o : Oper) (w : World) (v : Value) (H H' : Heap) : Prop :=
  H' = H ∧ ∃ v', (execOp a.eval o).run P w = .ok (.value v') w ∧ VR φ v v'

theorem calmS {P : Program} {φ : Phi} {call : CallFn} {e : Env} {a : Act} {H H' : Heap} {w : World} {o : Oper} {i : I} {v : Value}
    (hc : i.cls = .calm ∨ ∃ es x lo hi top, i = .slc es x lo hi top) (hok : okOp P o.op i = true) (he : EnvR φ e a.tmps) (hrel : Rel φ H w) (hrun : i.run call e H = some (v, H')) : Calm P φ a o w v H H' := by
  obtain ⟨dst, op, ty, pos, aft, gd⟩ := o
  simp only at hok
  cases i with
  | mov y =>
    simp only [I.run] at hrun
    split at hrun <;> cases hrun
    rename_i hv
    simp only [okOp] at hok
    split at hok <;> first
      | exact ⟨rfl, _, by simp [execOp], okX_ev he hok hv⟩
      | cases hok
  | pick c x y =>
    simp only [I.run] at hrun
    split at hrun <;> cases hrun
    rename_i p u1 u2 h1 h2 h3
    simp only [okOp] at hok
    split at hok <;> try cases hok
    obtain ⟨k12, k3⟩ := ok_and hok
    obtain ⟨k1, k2⟩ := ok_and k12
    have e1 := (okX_ev he k1 h1).bool
    refine ⟨rfl, _, by simp [execOp, e1, asBool]; rfl, ?_⟩
    cases p
    · exact okX_ev he k3 h3
    · exact okX_ev he k2 h2
  | build z ps =>
    simp only [I.run] at hrun
    split at hrun <;> try cases hrun
    rename_i vs hvs
    split at hrun <;> cases hrun
    rename_i cs hcs
    simp only [okOp] at hok
    split at hok <;> try cases hok
    rename_i t parts
    obtain ⟨k1, k2⟩ := ok_and hok
    split at k2 <;> try cases k2
    rename_i fs hfs
    obtain ⟨k3, k4⟩ := ok_and k2
    have hu := structOf_spec hfs
    obtain ⟨zv, hz, hzc, hzr⟩ := run_zeroValue' k1 w
    have hall : ∀ f ∈ fs.toList, isSome' (P.info? f.type) = true := List.all_eq_true.1 k3
    have hpl : ∀ (i : Nat) (fd : Field) (n : Nat), fs[i]? = some fd → szIs P fd.type n = true → ((fs.toList.map fun f => (f.offset, ((P.info? f.type).map (·.size)).getD 0)).toArray)[i]? = some (fd.offset, n) := by
      intro i fd n hi hs
      obtain ⟨inf, h1, h2⟩ := szIs_spec hs
      simp [hi, h1, h2]
    have hpr := okParts_spec (φ := φ) he (fs := fs) hpl k4 hvs
    obtain ⟨out', hf, hl⟩ := fill_spec hpr (hzr φ) hcs
    refine ⟨rfl, .agg out'.toArray, ?_, VR.agg hl⟩
    have hzz : zv.cells = z.toArray := by rw [← hzc]
    have hm := run_mapM_places (P := P) w fs.toList hall
    simp [sizeOf] at hm
    have hf' : Instr.fill (fun x => (List.map (fun f : Field => (f.offset, (Option.map (fun x : TypeInfo => x.size) (P.info? f.type)).getD 0)) fs.toList).toArray[x]?) z.toArray (List.map (fun p => (p.fst, a.eval p.snd)) parts.toList) = some out'.toArray := hf
    simp [execOp, Instr.build, hz, run_underlying hu, sizeOf]
    rw [Array.mapM_eq_mapM_toList, Sem.run_map, hm, hzz]
    simp only [Result.andThen_ok]
    rw [hf']
    simp
  | nilck y =>
    simp only [I.run] at hrun
    split at hrun <;> cases hrun
    rename_i b hv
    simp only [okOp] at hok
    split at hok <;> try cases hok
    have hr := okX_ev he hok hv
    obtain ⟨b0, off, sp⟩ := b
    obtain ⟨h1, p, hp, e1⟩ := hr
    refine ⟨rfl, .pointer (some ⟨p.r, p.o + off, none⟩), by simp [execOp, e1], ⟨h1, p, hp, rfl⟩⟩
  | bin op y z =>
    simp only [I.run] at hrun
    split at hrun <;> try cases hrun
    rename_i v1 v2 h1 h2
    split at hrun <;> cases hrun
    rename_i hb
    simp only [okOp] at hok
    split at hok <;> try cases hok
    rename_i op' t x u u'
    obtain ⟨k12, k3⟩ := ok_and hok
    obtain ⟨k1, k2⟩ := ok_and k12
    rw [decide_eq_true_eq] at k1
    subst k1
    have r1 := okX_ev he k2 h1
    have r2 := okX_ev he k3 h2
    refine ⟨rfl, v, ?_, ?_⟩
    · have hx : a.eval x = v1 ∧ a.eval u = v2 ∧ v1 ≠ .nilIface ∧ ∀ c, v1 ≠ .agg c := by
        unfold binV at hb
        split at hb
        · exact ⟨r1.int, r2.int, by simp, by simp⟩
        · exact ⟨r1.string, r2.string, by simp, by simp⟩
        · cases hb
      simp only [execOp, hx.1, hx.2.1, Sem.run_bind, run_eqGuard_plain hx.2.2.1 hx.2.2.2, Result.andThen_ok, run_bin hb, Sem.run_pure]
    · unfold binV at hb
      split at hb
      · split at hb
        · unfold shiftBy at hb
          split at hb
          · cases hb
          · split at hb <;> cases hb <;> rfl
        · split at hb
          · unfold intOp at hb
            split at hb <;> first
              | (cases hb; rfl)
              | (cases hb; done)
              | (split at hb <;> cases hb; rfl)
          · cases hb
      · unfold strOp at hb
        split at hb <;> first
          | (cases hb; rfl)
          | (cases hb; done)
          | (split at hb <;> cases hb; rfl)
      · cases hb
  | eqb neq y z =>
    simp only [I.run] at hrun
    split at hrun <;> cases hrun
    rename_i p q h1 h2
    simp only [okOp] at hok
    split at hok <;> try cases hok
    rename_i op' t x u u'
    obtain ⟨k123, k4⟩ := ok_and hok
    obtain ⟨k12, k3⟩ := ok_and k123
    obtain ⟨k1, k2⟩ := ok_and k12
    rw [decide_eq_true_eq] at k1
    subst k1
    have r1 := (okX_ev he k3 h1).bool
    have r2 := (okX_ev he k4 h2).bool
    have hu := isBool_spec k2
    refine ⟨rfl, _, ?_, rfl⟩
    have hq := run_equal_bool hu p q w
    cases neq <;> simp [execOp, r1, r2, run_eqGuard_plain, binOp, hq]
  | eqs neq ks y z =>
    simp only [I.run] at hrun
    split at hrun <;> try cases hrun
    rename_i p q h1 h2
    split at hrun <;> cases hrun
    rename_i r hr
    simp only [okOp] at hok
    split at hok <;> try cases hok
    rename_i op' t x u u'
    obtain ⟨k1, k6⟩ := ok_and hok
    obtain ⟨k1, k5⟩ := ok_and k1
    obtain ⟨k1, k4⟩ := ok_and k1
    obtain ⟨k1, k3⟩ := ok_and k1
    obtain ⟨k1, k2⟩ := ok_and k1
    rw [decide_eq_true_eq] at k1
    subst k1
    obtain ⟨p', e1, l1⟩ := okX_ev he k5 h1
    obtain ⟨q', e2, l2⟩ := okX_ev he k6 h2
    have s1 : p' = p := Array.ext' (eqCells_same hr l1)
    have s2 : q' = q := Array.ext' (eqCells_same' hr l2)
    subst s1 s2
    obtain ⟨fs, hfs⟩ := isSome'_spec k2
    have hu := structOf_spec hfs
    unfold okFlat at k3
    split at k3 <;> try cases k3
    rename_i l hl
    rw [decide_eq_true_eq] at k3
    subst k3
    have hq := run_equal_flat (P := P) w 20 9980 t l hl p'.toList q'.toList r hr
    have hv : ∀ c : Array Value, valOf P t c.toList = .agg c := fun c => by simp [valOf, hu]
    rw [hv, hv] at hq
    have hq' : (Op.equal t (.agg p') (.agg q')).run P w = .ok r w := hq
    have hg : (eqGuard (if neq = true then .neq else .eql) t x u (.agg p') (.agg q')).run P w = .ok () w := by
      have : P.eqGuardType P.depth t = false := by simpa using k4
      cases neq <;> simp [eqGuard, this]
    refine ⟨rfl, _, ?_, rfl⟩
    cases neq
    · simp at hg; simp [execOp, e1, e2, hg, binOp, hq']
    · simp at hg; simp [execOp, e1, e2, hg, binOp, hq']
  | eqp neq y z =>
    simp only [I.run] at hrun
    split at hrun <;> (first | (cases hrun; done) | skip)
    rotate_left
    · rename_i p q h1 h2
      by_cases hpq : p = q
      · rw [if_pos hpq] at hrun
        cases hrun
        subst hpq
        simp only [okOp] at hok
        split at hok <;> try cases hok
        rename_i op' t x u u'
        obtain ⟨k123, k4⟩ := ok_and hok
        obtain ⟨k12, k3⟩ := ok_and k123
        obtain ⟨k1, k2⟩ := ok_and k12
        rw [decide_eq_true_eq] at k1
        subst k1
        obtain ⟨el, i, hu, hi⟩ := isPtr_spec2 k2
        obtain ⟨b0, off, sp⟩ := p
        obtain ⟨hsp, pp, hp1, e1⟩ := okX_ev he k3 h1
        obtain ⟨_, pp2, hp2, e2⟩ := okX_ev he k4 h2
        rw [hp1] at hp2
        cases hp2
        refine ⟨rfl, _, ?_, rfl⟩
        have hq : ∀ w : World, (Op.equal t (.pointer (some ⟨pp.r, pp.o + off, none⟩)) (.pointer (some ⟨pp.r, pp.o + off, none⟩))).run P w = .ok true w := run_equal_ptr2 hu hi _
        cases neq <;> simp [execOp, e1, e2, run_eqGuard_plain, binOp, hq]
      · rw [if_neg hpq] at hrun; cases hrun
    cases hrun
    rename_i p h1 h2
    simp only [okOp] at hok
    split at hok <;> try cases hok
    rename_i op' t x u u'
    obtain ⟨k123, k4⟩ := ok_and hok
    obtain ⟨k12, k3⟩ := ok_and k123
    obtain ⟨k1, k2⟩ := ok_and k12
    rw [decide_eq_true_eq] at k1
    subst k1
    obtain ⟨el, hu⟩ := isPtr_spec k2
    have r1 := okX_ev he k3 h1
    have r2 : a.eval u = .pointer none := okX_ev he k4 h2
    have r1' : ∃ p', a.eval x = .pointer p' ∧ p'.isNone = p.isNone := by
      cases p with
      | none => exact ⟨none, r1, rfl⟩
      | some b => obtain ⟨b0, off, sp⟩ := b; obtain ⟨_, pp, _, e1⟩ := r1; exact ⟨_, e1, rfl⟩
    obtain ⟨p', r1', hn⟩ := r1'
    refine ⟨rfl, _, ?_, rfl⟩
    have hq : (Op.equal t (.pointer p') (.pointer none)).run P w = .ok p.isNone w := by rw [← hn]; exact run_equal_ptr hu p' w
    cases neq <;> simp [execOp, r1', r2, run_eqGuard_plain, binOp, hq]
  | un op y =>
    simp only [I.run] at hrun
    split at hrun <;> try cases hrun
    rename_i v1 h1
    split at hrun <;> cases hrun
    rename_i hb
    simp only [okOp] at hok
    split at hok <;> try cases hok
    obtain ⟨k1, k2⟩ := ok_and hok
    rw [decide_eq_true_eq] at k1
    subst k1
    have r1 := okX_ev he k2 h1
    unfold unV at hb
    split at hb <;> cases hb
    · obtain e1 := r1.int; exact ⟨rfl, _, by simp [execOp, e1, Op.unary, Op.intArith], rfl⟩
    · obtain e1 := r1.int; exact ⟨rfl, _, by simp [execOp, e1, Op.unary, Op.intBits], rfl⟩
    · obtain e1 := r1.bool; exact ⟨rfl, _, by simp [execOp, e1, Op.unary], rfl⟩
  | conv k y =>
    simp only [I.run] at hrun
    split at hrun <;> cases hrun
    rename_i k0 n h1
    simp only [okOp] at hok
    split at hok <;> try cases hok
    obtain ⟨k12, k3⟩ := ok_and hok
    obtain ⟨k1, k2⟩ := ok_and k12
    have r1 := (okX_ev he k3 h1).int
    obtain ⟨d0, hd0⟩ := isSome'_spec k1
    have hd := isKind_spec k2
    exact ⟨rfl, _, by simp [execOp, r1, convert, run_underlying hd0, run_underlying hd, Conv.intToInt], rfl⟩
  | mki t y =>
    simp only [I.run] at hrun
    split at hrun <;> cases hrun
    rename_i k0 n h1
    simp only [okOp] at hok
    split at hok <;> try cases hok
    obtain ⟨k12, k3⟩ := ok_and hok
    obtain ⟨k1, k2⟩ := ok_and k12
    rw [beq_eq, decide_eq_true_eq] at k1
    subst k1
    have r1 := (okX_ev he k3 h1).int
    refine ⟨rfl, .iface t (.int k0 n), ?_, rfl⟩
    unfold notIface at k2
    split at k2 <;> try cases k2
    rename_i d hd hu
    simp only [execOp, r1, Instr.makeInterface, Sem.run_bind, run_underlying hu, Result.andThen_ok]
    cases d <;> first
      | rfl
      | exact (hd _ rfl).elim
  | mkf f cs =>
    simp only [I.run] at hrun
    split at hrun <;> try cases hrun
    rename_i vs h1
    cases hsim : vs.all simpleV with
    | false => rw [hsim] at hrun; cases hrun
    | true =>
    rw [hsim, cond_true] at hrun
    cases hrun
    simp only [okOp] at hok
    split at hok <;> try cases hok
    rename_i g first cap
    obtain ⟨k12, k3⟩ := ok_and hok
    obtain ⟨k1, k2⟩ := ok_and k12
    rw [beq_eq, decide_eq_true_eq] at k1
    subst k1
    have r1 := okXs_ev he k3 h1
    have hf : first = #[] := by simpa using k2
    subst hf
    refine ⟨rfl, .func (.func f) #[] (cap.map a.eval), by simp [execOp, Instr.makeFunc], ⟨_, _, rfl, trivial, by simpa using r1.simple hsim⟩⟩
  | slc es y lo hi top =>
    simp only [I.run] at hrun
    split at hrun <;> try cases hrun
    rename_i b n c l h m h1 h2 h3 h4
    split at hrun <;> try cases hrun
    rename_i m' hm
    split at hrun <;> try cases hrun
    rename_i h' hh
    split at hrun <;> try cases hrun
    rename_i l' hl
    simp only [okOp] at hok
    split at hok <;> try cases hok
    rename_i t x lo' hi' top'
    obtain ⟨k1, k8⟩ := ok_and hok
    obtain ⟨k1, k5⟩ := ok_and k1
    obtain ⟨k1, k4⟩ := ok_and k1
    obtain ⟨k1, k3⟩ := ok_and k1
    obtain ⟨k1, k2⟩ := ok_and k1
    split at k1 <;> try cases k1
    rename_i el hel
    obtain ⟨k6, k7⟩ := ok_and k1
    have hpos := Nat.le_of_ble_eq_true k7
    have hu := sliceOf_spec hel
    have hsz := run_sizeOf' k6 w
    have r1 := okX_ev he k2 h1
    have o1 := evo_spec he k3 h2
    have o2 := evo_spec he k4 h3
    have o3 := evo_spec he k5 h4
    have htop : m ≠ none → h ≠ none := by
      intro hm0 hh0
      subst hh0
      have o2' : hi'.map a.eval = none := o2
      cases m with
      | none => exact hm0 rfl
      | some u =>
        obtain ⟨u', o3', _⟩ := o3
        cases hi' <;> cases top' <;> simp at o2' o3' k8
    cases b with
    | none =>
      obtain ⟨rfl, rfl, e1⟩ := r1
      obtain ⟨m2, hb, b1, b2, b3, b4, b5, b6, b7, b8⟩ := run_sliceBounds (P := P) (isS := true) (Nat.le_refl 0) hm hh hl o1 o2 o3 htop w
      simp only [beq_eq] at hrun
      simp at hrun
      obtain ⟨rfl, rfl⟩ := hrun
      have z1 : m2 = 0 := by omega
      have z2 : h' = 0 := by
        by_cases hh0 : h = none
        · exact b6 hh0
        · have := b5 hh0; omega
      have z3 : l' = 0 := by omega
      subst z1 z2 z3
      refine ⟨rfl, .slice none 0 0, ?_, ⟨rfl, rfl, rfl⟩⟩
      simp [execOp, e1, Instr.sliceAt, run_underlying hu, Instr.slice, hb, hsz]
    | some b =>
      obtain ⟨b0, off, sp⟩ := b
      obtain ⟨rfl, p, c', a', hp, e1, q1, q2, q3, q4, q5, q6⟩ := r1
      obtain ⟨m2, hb, b1, b2, b3, b4, b5, b6, b7, b8⟩ := run_sliceBounds (P := P) (isS := true) q2 hm hh hl o1 o2 o3 htop w
      simp only at hrun
      have hm8 : m' ≤ c := b8
      have hh8 : h' ≤ m' := by
        by_cases hh0 : h = none
        · have e9 := b6 hh0
          by_cases hm0 : m = none
          · have := (b3 hm0).2; omega
          · exact absurd hh0 (htop hm0)
        · exact b5 hh0
      rw [cond_eq_ite] at hrun
      split at hrun
      · rename_i hc0
        rw [beq_eq, decide_eq_true_eq] at hc0
        subst hc0
        cases hrun
        have z1 : h' = 0 := by omega
        have z2 : l' = 0 := by omega
        subst z1 z2
        refine ⟨rfl, .slice (if m2 = 0 then some a' else (some a').map (·.add (0 * es))) (0 - 0) (m2 - 0), ?_, ?_⟩
        · simp [execOp, e1, Instr.sliceAt, run_underlying hu, Instr.slice, hb, hsz]
        · have d6 : m2 * p.es ≤ c' * p.es := Nat.mul_le_mul_right _ b7
          refine ⟨rfl, p, m2, a', hp, ?_, by omega, by omega, by omega, by omega, ?_, ?_⟩
          · simp only [Nat.zero_mul, Nat.sub_zero]
            split
            · rfl
            · simp [Addr.add]
          · intro hpos'
            exact q5 (by omega)
          · by_cases hm0 : m = none
            · obtain ⟨w1, w2⟩ := b3 hm0
              subst w1
              rcases q6 with q6 | q6
              · left; omega
              · right; omega
            · left; have := b2 hm0; omega
      split at hrun
      · rename_i row hrow
        obtain ⟨p', hp', hrr⟩ := hrel.row _ _ hrow
        rw [hp] at hp'
        cases hp'
        simp only [beq_eq] at hrun
        cases hbb : decide (row.es = es) with
        | false => rw [hbb] at hrun; cases hrun
        | true =>
          rw [hbb, cond_true] at hrun
          cases hrun
          rw [decide_eq_true_eq] at hbb
          have hes : p.es = es := hrr.es.trans hbb
          have hm' : m' ≤ c := b8
          have hh' : h' ≤ m' := by
            by_cases hh0 : h = none
            · have e9 := b6 hh0
              by_cases hm0 : m = none
              · have := (b3 hm0).2; omega
              · exact absurd hh0 (htop hm0)
            · exact b5 hh0
          refine ⟨rfl, .slice (if m2 = l' then some a' else (some a').map (·.add (l' * es))) (h' - l') (m2 - l'), ?_, ?_⟩
          · simp [execOp, e1, Instr.sliceAt, run_underlying hu, Instr.slice, hb, hsz]
          · subst hes
            have d1 : (c - l') * p.es = c * p.es - l' * p.es := Nat.sub_mul _ _ _
            have d2 : (m' - l') * p.es = m' * p.es - l' * p.es := Nat.sub_mul _ _ _
            have d3 : (m2 - l') * p.es = m2 * p.es - l' * p.es := Nat.sub_mul _ _ _
            have d4 : l' * p.es ≤ m' * p.es := Nat.mul_le_mul_right _ (by omega)
            have d5 : m' * p.es ≤ c * p.es := Nat.mul_le_mul_right _ hm'
            have d6 : m2 * p.es ≤ c' * p.es := Nat.mul_le_mul_right _ b7
            have d7 : m' * p.es ≤ m2 * p.es := Nat.mul_le_mul_right _ b1
            refine ⟨rfl, p, m2 - l', (if m2 = l' then a' else a'.add (l' * p.es)), hp, ?_, by omega, by omega, by omega, by omega, ?_, ?_⟩
            · split <;> rfl
            · intro hpos'
              have : ¬ m2 = l' := by omega
              rw [if_neg this, q5 (by omega), add_at, Nat.add_assoc]
            · by_cases hm0 : m = none
              · obtain ⟨z1, z2⟩ := b3 hm0
                subst z1 z2
                rcases q6 with q6 | q6
                · left; omega
                · right; omega
              · left; have := b2 hm0; omega
      · cases hrun
  | sls y lo hi =>
    simp only [I.run] at hrun
    split at hrun <;> try cases hrun
    rename_i s l h h1 h2 h3
    split at hrun <;> try cases hrun
    rename_i h' hh
    split at hrun <;> cases hrun
    rename_i l' hl
    simp only [okOp] at hok
    split at hok <;> try cases hok
    rename_i t x lo' hi'
    obtain ⟨k1, k4⟩ := ok_and hok
    obtain ⟨k1, k3⟩ := ok_and k1
    obtain ⟨k1, k2⟩ := ok_and k1
    have r1 := (okX_ev he k2 h1).string
    have o1 := evo_spec he k3 h2
    have o2 := evo_spec he k4 h3
    have hu := isStr_spec k1
    obtain ⟨m', hb, _⟩ := run_sliceBounds (P := P) (isS := false) (Nat.le_refl s.size) (show bound none s.size s.size = some s.size from rfl) hh hl o1 o2 (show OV φ none none from rfl) (by simp) w
    refine ⟨rfl, .string (s.extract l' h'), ?_, rfl⟩
    simp [execOp, r1, Instr.sliceAt, run_underlying hu, Instr.slice, hb]
  | fa off y =>
    simp only [I.run] at hrun
    split at hrun <;> cases hrun
    rename_i b o h1
    simp only [okOp] at hok
    split at hok <;> try cases hok
    rename_i s x f
    obtain ⟨k1, k2⟩ := ok_and hok
    obtain ⟨_, p, hp, e1⟩ := okX_ev he k2 h1
    unfold fieldAtIs at k1
    split at k1 <;> try cases k1
    rename_i fs hfs
    split at k1 <;> try cases k1
    rename_i fd hfd
    obtain ⟨k3, k4⟩ := ok_and k1
    rw [beq_eq, decide_eq_true_eq] at k3
    split at k4 <;> try cases k4
    rename_i inf hinf
    have k4 : inf.size ≠ 0 := by simpa [beq_eq] using k4
    refine ⟨rfl, .pointer (some ⟨p.r, p.o + (o + off), none⟩), ?_, ⟨rfl, p, hp, rfl⟩⟩
    simp [execOp, e1, Instr.fieldAt, run_underlying hfs, hfd, Instr.sureAddr, fieldPlace, sizeOf, typeInfo, hinf, k4, add_at, k3, Nat.add_assoc]
  | fld agg off n y =>
    simp only [I.run] at hrun
    split at hrun <;> try cases hrun
    rename_i cs h1
    simp only [okOp] at hok
    split at hok <;> try cases hok
    rename_i s x f
    obtain ⟨k1, k2⟩ := ok_and hok
    obtain ⟨cs', e1, l1⟩ := okX_ev he k2 h1
    unfold fieldIs at k1
    split at k1 <;> try cases k1
    rename_i fs hfs
    split at k1 <;> try cases k1
    rename_i fd hfd
    obtain ⟨k3, k5⟩ := ok_and k1
    obtain ⟨k3, k4⟩ := ok_and k3
    rw [beq_eq, decide_eq_true_eq] at k3
    cases agg with
    | true =>
      simp only [cond_true, beq_eq] at hrun
      cases hb : decide (((cs.toList.drop off).take n).length = n) with
      | false => rw [hb] at hrun; cases hrun
      | true =>
        rw [hb, cond_true] at hrun
        cases hrun
        refine ⟨rfl, .agg ((cs'.toList.drop off).take n).toArray, ?_, VR.agg ((l1.drop off).take n)⟩
        simp only [execOp, e1, Instr.field, Sem.run_bind, run_underlying hfs, Result.andThen_ok, hfd, asAgg, Sem.run_pure, part, run_isAgg' k5, if_true, run_sizeOf' k4, k3]
        congr 4
        apply Array.ext'
        simp
    | false =>
      simp only [cond_false] at hrun
      split at hrun <;> cases hrun
      rename_i hv
      obtain ⟨v', hv', hr⟩ := l1.get off v hv
      refine ⟨rfl, v', ?_, VR.of_VR0 hr⟩
      have : cs'[off]? = some v' := by simpa using hv'
      simp [execOp, e1, Instr.field, run_underlying hfs, hfd, asAgg, part, run_isAgg' k5, k3, this]
  | ia es y j =>
    simp only [I.run] at hrun
    split at hrun <;> try cases hrun
    rename_i b off n c k0 jj h1 h2
    split at hrun <;> cases hrun
    rename_i hj
    simp only [okOp] at hok
    split at hok <;> try cases hok
    rename_i t x u
    obtain ⟨k1, k3⟩ := ok_and hok
    obtain ⟨k1, k2⟩ := ok_and k1
    split at k1 <;> try cases k1
    rename_i el hel
    have hu := sliceOf_spec hel
    have hsz := run_sizeOf' k1 w
    obtain ⟨_, p, c', a', hp, e1, q1, q2, q3, q4, q5, q6⟩ := okX_ev he k2 h1
    have e2 := (okX_ev he k3 h2).int
    obtain rfl := q5 (by omega)
    refine ⟨rfl, .pointer (some ⟨p.r, p.o + (off + jj.toNat * es), none⟩), ?_, ⟨rfl, p, hp, rfl⟩⟩
    simp [execOp, e1, e2, Instr.indexAt, asIntOf, run_underlying hu, hj, hsz, add_at, Nat.add_assoc]
  | idx y j =>
    simp only [I.run] at hrun
    split at hrun <;> try cases hrun
    rename_i s k0 jj h1 h2
    split at hrun <;> try cases hrun
    rename_i hj
    split at hrun <;> cases hrun
    rename_i b hb
    simp only [okOp] at hok
    split at hok <;> try cases hok
    rename_i t x u
    obtain ⟨k1, k3⟩ := ok_and hok
    obtain ⟨k1, k2⟩ := ok_and k1
    have hu := isStr_spec k1
    have e1 := (okX_ev he k2 h1).string
    have e2 := (okX_ev he k3 h2).int
    have hb' : s[jj.toNat]? = some b := by
      have h9 : jj.toNat < s.size := by have := (List.getElem?_eq_some_iff.1 hb).1; simpa using this
      rw [getElem?_pos s jj.toNat h9]
      have := (List.getElem?_eq_some_iff.1 hb).2
      rw [← this]
      rfl
    refine ⟨rfl, .int .u8 b.toNat, ?_, rfl⟩
    simp [execOp, e1, e2, Instr.index, asIntOf, run_underlying hu, hj, hb']
  | ext y k =>
    simp only [I.run] at hrun
    split at hrun <;> try cases hrun
    rename_i vs h1
    split at hrun <;> cases hrun
    rename_i hv
    simp only [okOp] at hok
    split at hok <;> try cases hok
    obtain ⟨k1, k2⟩ := ok_and hok
    rw [beq_eq, decide_eq_true_eq] at k1
    subst k1
    obtain ⟨vs', e1, l1⟩ := okX_ev he k2 h1
    obtain ⟨v', hv', hr⟩ := l1.get _ _ hv
    have : vs'[k]? = some v' := by simpa using hv'
    exact ⟨rfl, v', by simp [execOp, e1, Instr.extract, this], VR.of_VR1 hr⟩
  | len y =>
    simp only [I.run] at hrun
    split at hrun <;> cases hrun
    rename_i b n c h1
    simp only [okOp] at hok
    split at hok <;> try cases hok
    rename_i as ts
    split at hok <;> try cases hok
    rename_i x t hx ht
    obtain ⟨k1, k2⟩ := ok_and hok
    obtain ⟨el, hel⟩ := isSome'_spec k1
    have hu := sliceOf_spec hel
    have hx' : as = #[x] := Array.ext' (by simpa using hx)
    have ht' : ts = #[t] := Array.ext' (by simpa using ht)
    subst hx' ht'
    have r1 := okX_ev he k2 h1
    have r2 : ∃ b' c', a.eval x = .slice b' n c' := by
      cases b with
      | none => obtain ⟨rfl, rfl, e1⟩ := r1; exact ⟨_, _, e1⟩
      | some b => obtain ⟨b0, off, sp⟩ := b; obtain ⟨_, p, c', a', hp, e1, _⟩ := r1; exact ⟨_, _, e1⟩
    obtain ⟨b', c', e1⟩ := r2
    refine ⟨rfl, .int .i64 n, ?_, rfl⟩
    simp [execOp, resolve, invoke, builtin, Builtin.len_, e1, run_underlying hu, goInt]
  | lens y =>
    simp only [I.run] at hrun
    split at hrun <;> cases hrun
    rename_i s h1
    simp only [okOp] at hok
    split at hok <;> try cases hok
    rename_i as ts
    split at hok <;> try cases hok
    rename_i x t hx ht
    obtain ⟨k1, k2⟩ := ok_and hok
    have hu := isStr_spec k1
    have hx' : as = #[x] := Array.ext' (by simpa using hx)
    have ht' : ts = #[t] := Array.ext' (by simpa using ht)
    subst hx' ht'
    have e1 := (okX_ev he k2 h1).string
    refine ⟨rfl, .int .i64 s.size, ?_, rfl⟩
    simp [execOp, resolve, invoke, builtin, Builtin.len_, e1, run_underlying hu, goInt]
  | mn ys =>
    simp only [I.run] at hrun
    split at hrun <;> try cases hrun
    rename_i k0 a0 r0 h1
    split at hrun <;> cases hrun
    rename_i hv
    simp only [okOp] at hok
    split at hok <;> try cases hok
    rename_i as ts
    have r1 := okXs_ev he hok h1
    obtain ⟨b, z, e1, e2, e3⟩ := LR.cons_left r1
    obtain rfl := e2.int
    have hm := minL_spec (P := P) e3 hv w
    refine ⟨rfl, v, ?_, ?_⟩
    · simp [execOp, resolve, invoke, builtin, Builtin.min_, e1, hm]
    · obtain ⟨n, rfl⟩ := minL_int hv; rfl
  | mx ys =>
    simp only [I.run] at hrun
    split at hrun <;> try cases hrun
    rename_i k0 a0 r0 h1
    split at hrun <;> cases hrun
    rename_i hv
    simp only [okOp] at hok
    split at hok <;> try cases hok
    rename_i as ts
    have r1 := okXs_ev he hok h1
    obtain ⟨b, z, e1, e2, e3⟩ := LR.cons_left r1
    obtain rfl := e2.int
    have hm := maxL_spec (P := P) e3 hv w
    refine ⟨rfl, v, ?_, ?_⟩
    · simp [execOp, resolve, invoke, builtin, Builtin.max_, e1, hm]
    · obtain ⟨n, rfl⟩ := maxL_int hv; rfl
  | usd y =>
    simp only [I.run] at hrun
    simp only [okOp] at hok
    split at hok <;> try cases hok
    rename_i as ts
    split at hrun
    · rename_i n c h1
      cases hrun
      obtain ⟨b, z, e1, e2, e3⟩ := LR.cons_left (okXs_ev he hok (vs := [.slice none n c]) (by simp [evs, h1]))
      have := LR.nil_left e3
      subst this
      obtain ⟨_, _, rfl⟩ := e2
      have hb : as.map a.eval = #[.slice none 0 0] := Array.ext' (by simpa using e1)
      exact ⟨rfl, .pointer none, by simp [execOp, resolve, invoke, builtin, hb, usd_nil], rfl⟩
    · rename_i b0 off n c h1
      rw [cond_eq_ite] at hrun
      split at hrun <;> cases hrun
      rename_i hc0
      have hc0 : 0 < c := Nat.le_of_ble_eq_true hc0
      obtain ⟨b, z, e1, e2, e3⟩ := LR.cons_left (okXs_ev he hok (vs := [.slice (some ⟨b0, off, none⟩) n c]) (by simp [evs, h1]))
      have := LR.nil_left e3
      subst this
      obtain ⟨_, p, c', a', hp, rfl, q1, q2, q3, q4, q5, q6⟩ := e2
      have hb : as.map a.eval = #[.slice (some a') n c'] := Array.ext' (by simpa using e1)
      have ha := q5 (by omega)
      subst ha
      have : ¬ c' = 0 := by omega
      exact ⟨rfl, .pointer (some ⟨p.r, p.o + off, none⟩), by simp [execOp, resolve, invoke, builtin, hb, usd_some, this], rfl, p, hp, rfl⟩
    · cases hrun
  | noesc f y =>
    simp only [I.run] at hrun
    split at hrun <;> cases hrun
    rename_i p h1
    simp only [okOp] at hok
    split at hok <;> try cases hok
    rename_i g as ts
    obtain ⟨k12, k3⟩ := ok_and hok
    obtain ⟨k1, k2⟩ := ok_and k12
    rw [beq_eq, decide_eq_true_eq] at k1
    subst k1
    split at k2 <;> try cases k2
    rename_i fn hfn
    obtain ⟨k4, k6⟩ := ok_and k2
    obtain ⟨k4, k5⟩ := ok_and k4
    rw [decide_eq_true_eq] at k5 k6
    obtain ⟨b, z, e1, e2, e3⟩ := LR.cons_left (okXs_ev he k3 (vs := [.pointer p]) (by simp [evs, h1]))
    have := LR.nil_left e3
    subst this
    have hb : as.map a.eval = #[b] := Array.ext' (by simpa using e1)
    have hbn : fn.body = none := by simpa using k4
    refine ⟨rfl, b, ?_, e2⟩
    have hfind : Extern.find fn = some Extern.AbiNoEscape.same := by
      unfold Extern.find
      simp only [k5]
      rfl
    have hnext : Extern.findNext fn = none := by
      unfold Extern.findNext
      simp only [k5, k6]
      rfl
    simp [execOp, resolve, invoke, hb, callFunc, hfn, k5, hbn, hfind, hnext, same_one, run_mark, Act.eval, Deferred.ofValue]
  | _ => rcases hc with hc | ⟨_, _, _, _, _, hc⟩; (simp [I.cls] at hc); cases hc

end Go.Proofs.Ytnjmdkecpadehaa.M
