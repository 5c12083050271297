/- The framework M, eleventh text: sizes only grow; one operation, and a region in the text's order, answers as M says. Conditions: the looks at the operations; what is known of calls ('CallS'). -/
import Derived.Test.YtnjmdkecpadehaaMMem
set_option linter.all false
set_option linter.unusedSimpArgs false
namespace Go.Proofs.Ytnjmdkecpadehaa.M

def CallMono (call : CallFn) : Prop := ∀ f vs H v H', call f vs H = some (v, H') → H.size ≤ H'.size
theorem storeN_size {H H' : Heap} {b off : Nat} {cs : List Value} (h : H.storeN b off cs = some H') : H'.size = H.size := by
  unfold Heap.storeN at h
  split at h
  · cases hb : (_ && _ : Bool) with
    | false => rw [hb] at h; cases h
    | true => rw [hb] at h; cases h; rfl
  · cases h
theorem appV_size {ty es bytes : Nat} {H H' : Heap} {s x v : Value} (h : appV ty es bytes H s x = some (v, H')) : H.size ≤ H'.size := by
  unfold appV at h
  repeat' (first
    | (cases h; done)
    | (cases h; first | exact Nat.le_refl _ | exact Nat.le_succ _ | (rename_i hst; have := storeN_size hst; omega))
    | split at h
    | (rw [cond_eq_ite] at h)
    | (simp only [cond_eq_ite] at h))
theorem I.run_size {call : CallFn} (hm : CallMono call) {i : I} {e : Env} {H H' : Heap} {v : Value} (h : i.run call e H = some (v, H')) : H.size ≤ H'.size := by
  cases i <;> simp only [I.run, cond_eq_ite] at h
  case app => split at h; exact appV_size h; cases h
  case call => split at h; exact hm _ _ _ _ _ h; cases h
  case callv => split at h; exact hm _ _ _ _ _ h; cases h
  all_goals repeat' (first
    | (cases h; done)
    | (cases h; first | exact Nat.le_refl _ | exact Nat.le_succ _ | (rename_i hst; have := storeN_size hst; omega))
    | split at h)
theorem O.run_size {call : CallFn} (hm : CallMono call) {o : O} {e e' : Env} {H H' : Heap} (h : o.run call e H = some (e', H')) : H.size ≤ H'.size := by
  unfold O.run at h
  split at h
  · cases h
  · cases h; exact Nat.le_refl _
  · split at h
    · rename_i hr; cases h; exact I.run_size hm hr
    · cases h
theorem runOps_size {call : CallFn} (hm : CallMono call) : ∀ {ops : List O} {e e' : Env} {H H' : Heap}, runOps call ops e H = some (e', H') → H.size ≤ H'.size
  | [], e, e', H, H', h => by cases h; exact Nat.le_refl _
  | o :: r, e, e', H, H', h => by
    unfold runOps at h
    split at h
    · rename_i ho; exact Nat.le_trans (O.run_size hm ho) (runOps_size hm h)
    · cases h

/-! ### Calls -/
def Callable (P : Program) (f : Nat) : Prop := ∃ fn, P.funcs[f]? = some fn ∧ (fn.name == "runtime.NumGoroutine") = false ∧ fn.body.isNone = false
/-- What is known of the calls of M: they are the program's. -/
def CallS (P : Program) (call : CallFn) : Prop := ∀ f vs H v H', call f vs H = some (v, H') → Callable P f ∧ ∀ (φ : Phi) (w : World) (args : Array Value), LR (VR φ) vs args.toList → Rel φ H w → Fresh φ H H' →
  Calls P f args w fun e w' => ∃ v' φ', e = .returned v' ∧ VR φ' v v' ∧ Rel φ' H' w' ∧ Step φ H w φ' H' w'
theorem run_callFunc {P : Program} {f : Nat} (h : Callable P f) (args : Array Value) (w : World) : (callFunc f args).run P w = .ok (.enter f args) w := by
  obtain ⟨fn, h1, h2, h3⟩ := h
  have h2' : ¬ fn.name = "runtime.NumGoroutine" := by simpa using h2
  have h3' : ¬ fn.body = none := by intro e; rw [e] at h3; cases h3
  simp [callFunc, h1, h2', h3']

/-- One operation that is carried out. -/
theorem oneS {P : Program} {φ : Phi} {call : CallFn} (hcs : CallS P call) {e : Env} {a : Act} {H H' : Heap} {w : World} {o : Oper} {i : I} {v : Value}
    (hok : okOp P o.op i = true) (he : EnvR φ e a.tmps) (hr : Rel φ H w) (hf : Fresh φ H H') (hrun : i.run call e H = some (v, H'))
    {K : Act → World → Prop} {Q : Exit → Act → World → Prop} (hK : ∀ v' w' φ', VR φ' v v' → Rel φ' H' w' → Step φ H w φ' H' w' → K (a.put o.dst v') w') : o.wp P a w K Q := by
  have yl : Yields P φ H w (execOp a.eval o) v H' → o.wp P a w K Q := by
    rintro ⟨nx, v', w', φ', e1, h1, h2, h3, h4⟩
    unfold Oper.wp
    rw [e1]
    rcases h1 with rfl | ⟨rfl, rfl⟩
    · exact hK v' w' φ' h2 h3 h4
    · exact hK undef w' φ' h2 h3 h4
  have enter : ∀ (f : Nat) (vs : List Value) (args : Array Value), call f vs H = some (v, H') → LR (VR φ) vs args.toList → (execOp a.eval o).run P w = (callFunc f args).run P w → o.wp P a w K Q := by
    intro f vs args hc hl e1
    obtain ⟨h1, h2⟩ := hcs f vs H v H' hc
    unfold Oper.wp
    rw [e1, run_callFunc h1, Oper.upon_enter]
    refine (h2 φ w args hl hr hf).mono ?_
    rintro e2 w' ⟨v', φ', rfl, k1, k2, k3⟩
    exact hK v' w' φ' k1 k2 k3
  by_cases hcl : i.cls = .calm
  · exact yl ((calmS (.inl hcl) hok he hr hrun).yields hr)
  · cases i with
    | call f xs =>
      simp only [I.run] at hrun
      split at hrun
      · rename_i vs hvs
        simp only [okOp] at hok
        split at hok <;> try cases hok
        rename_i g as ts h9
        obtain ⟨k1, k2⟩ := ok_and hok
        rw [beq_eq, decide_eq_true_eq] at k1
        subst k1
        refine enter f vs (as.map a.eval) hrun (by simpa using okXs_ev he k2 hvs) ?_
        obtain ⟨dst, op, ty, pos, aft, gd⟩ := o
        simp only at h9
        subst h9
        simp [execOp, resolve, invoke, Act.eval, Deferred.ofValue]
      · cases hrun
    | callv fx xs =>
      simp only [I.run] at hrun
      split at hrun
      · rename_i f first cap vs hfx hvs
        simp only [okOp] at hok
        split at hok <;> try cases hok
        rename_i x as ts h9
        obtain ⟨k1, k2⟩ := ok_and hok
        obtain ⟨first', cap', e2, l1, l2⟩ := okX_ev he k1 hfx
        refine enter f _ (first' ++ as.map a.eval ++ cap') hrun (by simpa using ((l1.imp fun _ _ h => VR.of_VR1 h).append (okXs_ev he k2 hvs)).append (l2.imp fun _ _ h => VR.of_VR1 h)) ?_
        obtain ⟨dst, op, ty, pos, aft, gd⟩ := o
        simp only at h9
        subst h9
        simp [execOp, resolve, invoke, e2, Deferred.ofValue]
      · cases hrun
    | _ => exact yl (memS hcl (by intro f xs h; cases h) (by intro f xs h; cases h) hok he hr hf hrun)

/-! ### Temps -/
theorem EnvR.put {φ : Phi} {e : Env} {a : Act} {v v' : Value} {d : Option Nat} (he : EnvR φ e a.tmps) (hv : VR φ v v') (hd : ∀ k, d = some k → k < a.tmps.size) : EnvR φ (put e d v) (a.put d v').tmps := by
  cases d with
  | none => exact he
  | some k =>
    intro t u hu
    simp only [M.put, look, beq_eq] at hu
    have hk := hd k rfl
    by_cases h : k = t
    · subst h
      simp at hu
      subst hu
      exact ⟨v', by simp [Act.put, hk], hv⟩
    · simp [h] at hu
      obtain ⟨u', h1, h2⟩ := he t u hu
      exact ⟨u', by simpa [Act.put, Array.getElem?_setIfInBounds_ne h] using h1, h2⟩
theorem look_keepOf {e : Env} : ∀ {ks : List Nat} {t : Nat} {v : Value}, look (keepOf e ks) t = some v → look e t = some v
  | [], t, v, h => by simp [keepOf, look] at h
  | k :: r, t, v, h => by
    unfold keepOf at h
    split at h
    · rename_i u hu
      simp only [look, beq_eq] at h
      by_cases hk : k = t
      · subst hk; simp at h; subst h; exact hu
      · simp [hk] at h; exact look_keepOf h
    · exact look_keepOf h
theorem EnvR.keep {φ : Phi} {e : Env} {tmps : Array Value} (h : EnvR φ e tmps) (ks : List Nat) : EnvR φ (keepOf e ks) tmps := fun t v hv => h t v (look_keepOf hv)
theorem size_put (a : Act) (d : Option Nat) (v : Value) : (a.put d v).tmps.size = a.tmps.size := by cases d <;> simp [Act.put]
theorem defers_put (a : Act) (d : Option Nat) (v : Value) : (a.put d v).defers = a.defers := by cases d <;> rfl

/-! ### A region in the text's order -/
def okDst (nt : Nat) : Option Nat → Option Nat → Bool
  | none, none => true
  | some a, some b => Nat.beq a b && Nat.blt a nt
  | _, _ => false
def okGuard (ops : Array Oper) : Option (Nat × Bool) → Option (Nat × Bool) → Bool
  | none, none => true
  | some (g, b), some (t, b') => decide ((ops[g]?).bind (·.dst) = some t) && (b == b')
  | _, _ => false
def okO1 (P : Program) (nt : Nat) (ops : Array Oper) (o : Oper) (m : O) : Bool := okOp P o.op m.i && okDst nt o.dst m.d && okGuard ops o.guard m.g
def okOps (P : Program) (nt : Nat) (ops : Array Oper) : List Oper → List O → Bool
  | [], [] => true
  | o :: r, m :: s => okO1 P nt ops o m && okOps P nt ops r s
  | _, _ => false
theorem okDst_spec {nt : Nat} {a b : Option Nat} (h : okDst nt a b = true) : a = b ∧ ∀ k, a = some k → k < nt := by
  unfold okDst at h
  split at h
  · exact ⟨rfl, fun k e => by cases e⟩
  · obtain ⟨h1, h2⟩ := ok_and h
    rw [beq_eq, decide_eq_true_eq] at h1
    subst h1
    exact ⟨rfl, fun k e => by cases e; exact Nat.le_of_ble_eq_true h2⟩
  · cases h
theorem want_spec {φ : Phi} {e : Env} {a : Act} (he : EnvR φ e a.tmps) {ops : Array Oper} {o : Oper} {m : O} (h : okGuard ops o.guard m.g = true) {b : Bool} (hw : m.want e = some b) : Region.wanted o (yielded ops a.tmps) = b := by
  unfold okGuard at h
  unfold O.want at hw
  unfold Region.wanted
  split at h
  · rename_i h1 h2
    rw [h2] at hw
    rw [h1]
    simpa using hw
  · rename_i g b1 t b2 h1 h2
    obtain ⟨k1, k2⟩ := ok_and h
    rw [decide_eq_true_eq] at k1
    have k2 : b1 = b2 := by simpa using k2
    subst k2
    rw [h2] at hw
    rw [h1]
    simp only at hw ⊢
    split at hw
    · rename_i p hp
      cases hw
      obtain ⟨v', h3, h4⟩ := he _ _ hp
      have h4 := h4.bool
      subst h4
      simp [yielded, k1, h3]
    · rename_i vs hp
      cases hw
      obtain ⟨v', h3, h4⟩ := he _ _ hp
      obtain ⟨vs', rfl, _⟩ := h4
      simp [yielded, k1, h3]
    · cases hw
  · cases h
/-- What a piece of code comes to. -/
structure Ends (P : Program) (nt : Nat) (φ : Phi) (H : Heap) (w : World) (ds : List Deferred) (e' : Env) (H' : Heap) (a' : Act) (w' : World) : Prop where
  out : ∃ φ', EnvR φ' e' a'.tmps ∧ a'.tmps.size = nt ∧ a'.defers = ds ∧ Rel φ' H' w' ∧ Step φ H w φ' H' w'
theorem opsS {P : Program} {call : CallFn} (hcs : CallS P call) (hm : CallMono call) {nt : Nat} {ops : Array Oper} {Q : Exit → Act → World → Prop} : ∀ {l : List Oper} {ms : List O} {φ : Phi} {e e' : Env} {a : Act} {H H' : Heap} {w : World},
    okOps P nt ops l ms = true → EnvR φ e a.tmps → a.tmps.size = nt → Rel φ H w → Fresh φ H H' → runOps call ms e H = some (e', H') →
    (∀ a' w', Ends P nt φ H w a.defers e' H' a' w' → Q .normal a' w') → wpList P ops Q l a w
  | [], [], φ, e, e', a, H, H', w, hok, he, hs, hr, hf, hrun, hQ => by
    cases hrun
    exact hQ a w ⟨φ, he, hs, rfl, hr, Step.refl _ _ _⟩
  | o :: l, m :: ms, φ, e, e', a, H, H', w, hok, he, hs, hr, hf, hrun, hQ => by
    obtain ⟨k1, k2⟩ := ok_and hok
    obtain ⟨k1, k3⟩ := ok_and k1
    obtain ⟨k1, k4⟩ := ok_and k1
    obtain ⟨hd, hdl⟩ := okDst_spec k4
    unfold runOps at hrun
    split at hrun <;> try cases hrun
    rename_i e1 H1 ho
    have hsz := runOps_size hm hrun
    have hf1 := hf.left hsz
    unfold O.run at ho
    unfold wpList
    split at ho
    · cases ho
    · rename_i hw
      cases ho
      rw [want_spec he k3 hw]
      simp only [Bool.false_eq_true, if_false]
      refine opsS hcs hm k2 (e := M.put e m.d unit) (a := a.put o.dst undef) (by rw [← hd]; exact he.put (VR.unit φ) (by rw [hs]; exact hdl)) (by rw [size_put]; exact hs) hr hf hrun ?_
      intro a' w' h
      rw [defers_put] at h
      exact hQ a' w' h
    · rename_i hw
      split at ho <;> cases ho
      rename_i v hi
      rw [want_spec he k3 hw]
      simp only [if_true]
      left
      refine oneS hcs k1 he hr hf1 hi ?_
      intro v' w1 φ1 h1 h2 h3
      refine opsS hcs hm k2 (e := M.put e m.d v) (a := a.put o.dst v') (by rw [← hd]; exact (he.mono h3.le).put h1 (by rw [hs]; exact hdl)) (by rw [size_put]; exact hs) h2 (hf.right h3) hrun ?_
      rintro a' w' ⟨φ2, g1, g2, g3, g4, g5⟩
      rw [defers_put] at g3
      exact hQ a' w' ⟨φ2, g1, g2, g3, g4, h3.trans g5⟩
  | [], _ :: _, _, _, _, _, _, _, _, h, _, _, _, _, _, _ => by simp [okOps] at h
  | _ :: _, [], _, _, _, _, _, _, _, h, _, _, _, _, _, _ => by simp [okOps] at h

end Go.Proofs.Ytnjmdkecpadehaa.M
