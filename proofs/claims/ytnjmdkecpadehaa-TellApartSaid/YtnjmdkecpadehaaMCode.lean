/- The framework M, seventeenth text: code and calls: what M's run of a function answers, the program's call answers. Conditions: the looks at the functions; what is known of those that M has no code of. -/
import Derived.Test.YtnjmdkecpadehaaMDraw4
import Derived.LoopN
set_option linter.all false
set_option linter.unusedSimpArgs false
namespace Go.Proofs.Ytnjmdkecpadehaa.M

def okCode (P : Program) (nt : Nat) : Code → C → Bool
  | .skip, .skip => true
  | .region _ ops false, .reg ms _ => okOps P nt ops ops.toList ms
  | .region _ ops true, .dreg ds _ => okDraw P nt ops ds
  | .seq a b, .seq x y => okCode P nt a x && okCode P nt b y
  | .cond c a b, .cond z x y => okX c z && (okCode P nt a x && okCode P nt b y)
  | .block i a, .blk j x => Nat.beq i j && okCode P nt a x
  | .loop a, .loop x => okCode P nt a x
  | .exit i, .exit j => Nat.beq i j
  | .ret, .ret => true
  | .refuse _, .dead => true
  | _, _ => false
def okRes (P : Program) : List ResultVar → List R → Bool
  | [], [] => true
  | .tmp t :: r, .t n :: s => Nat.beq t n && okRes P r s
  | .cell a t :: r, .c b agg n :: s => Nat.beq a b && (aggIs P t agg && ((!agg || szIs P t n) && okRes P r s))
  | _, _ => false
def okFun (P : Program) (f : Nat) (m : MF) : Bool :=
  match P.funcs[f]? with
  | some fn => match fn.body with
    | some c => !(fn.name == "runtime.NumGoroutine") && (Nat.ble m.na fn.ntmps && (okRes P fn.results.toList m.res && okCode P fn.ntmps c m.body))
    | none => false
  | none => false
/-- What is known of one function. -/
def KnownS (P : Program) (f : Nat) (k : List Value → Heap → Option (Value × Heap)) : Prop := ∀ vs H v H', k vs H = some (v, H') → Callable P f ∧ H.size ≤ H'.size ∧ ∀ (φ : Phi) (w : World) (args : Array Value), LR (VR φ) vs args.toList → Rel φ H w → Fresh φ H H' →
  Calls P f args w fun e w' => ∃ v' φ', e = .returned v' ∧ VR φ' v v' ∧ Rel φ' H' w' ∧ Step φ H w φ' H' w'
/-- The functions of M are the program's. -/
structure Funs (P : Program) (F : Nat → Option Fun) : Prop where
  mixed : P.follows .mixedOrders = true
  code : ∀ f m, F f = some (.code m) → okFun P f m = true
  known : ∀ f k, F f = some (.known k) → KnownS P f k

def exitOf : Out → Exit
  | .nrm => .normal
  | .ex id => .exit id
  | .ret => .ret

theorem D.run_size {call : CallFn} (hm : CallMono call) {k : Nat} {d : D} {s s' : DS} (h : d.run call k s = some s') : s.H.size + s.pend.length ≤ s'.H.size + s'.pend.length := by
  cases D.run_way h with
  | skip hw hs => rw [hs]; exact Nat.le_refl _
  | calm v hw hc H1 hr hs => rw [hs]; exact Nat.le_refl _
  | far v hw hc H1 hr hp hs => rw [hs]; exact Nat.le_refl _
  | load v hw hc H1 hr p ce hp he hk hs => rw [hs]; exact Nat.le_refl _
  | alloc es z hw hc hs => rw [hs]; simp <;> omega
  | act v hw hc H' hr hk hs =>
    have := I.run_size hm hr
    rw [pushAll_size] at this
    rw [hs]
    simp
    omega
theorem runDs_size {call : CallFn} (hm : CallMono call) : ∀ {ds : List D} {k : Nat} {s s' : DS}, runDs call k ds s = some s' → s.H.size + s.pend.length ≤ s'.H.size + s'.pend.length
  | [], k, s, s', h => by cases h; exact Nat.le_refl _
  | d :: r, k, s, s', h => by
    unfold runDs at h
    split at h
    · rename_i h1; exact Nat.le_trans (D.run_size hm h1) (runDs_size hm h)
    · cases h

theorem finish_spec {res : List R} {d : Option Done} {v : Value} {H' : Heap} (h : finish res d = some (v, H')) : ∃ o e rs, d = some (o, e, H') ∧ (o = .nrm ∨ o = .ret) ∧ resOf e H' res = some rs ∧ resV rs = some v := by
  unfold finish at h
  split at h
  · split at h
    · rename_i hrs
      split at h <;> cases h
      rename_i hv
      exact ⟨_, _, _, rfl, .inl rfl, hrs, hv⟩
    · cases h
  · split at h
    · rename_i hrs
      split at h <;> cases h
      rename_i hv
      exact ⟨_, _, _, rfl, .inr rfl, hrs, hv⟩
    · cases h
  · cases h

section
variable {P : Program} {F : Nat → Option Fun}

theorem callOf_mono (hF : Funs P F) {ex : C → Env → Heap → Option Done} (hx : ∀ c e H o e' H', ex c e H = some (o, e', H') → H.size ≤ H'.size) : CallMono (callOf F ex) := by
  intro f vs H v H' h
  unfold callOf at h
  split at h
  · cases h
  · rename_i k hk
    exact (hF.known f k hk vs H v H' h).2.1
  · rename_i m hm
    rw [cond_eq_ite] at h
    split at h
    · obtain ⟨o, e, rs, h1, _⟩ := finish_spec h
      exact hx _ _ _ _ _ _ h1
    · cases h
theorem exec_size (hF : Funs P F) : ∀ (n : Nat) (c : C) (e : Env) (H : Heap) (o : Out) (e' : Env) (H' : Heap), exec F n c e H = some (o, e', H') → H.size ≤ H'.size
  | 0, c, e, H, o, e', H', h => by simp [exec] at h
  | n + 1, c, e, H, o, e', H', h => by
    have ih := exec_size hF n
    have hm := callOf_mono hF ih
    cases c with
    | skip => cases h; exact Nat.le_refl _
    | dead => cases h
    | ret => cases h; exact Nat.le_refl _
    | exit id => cases h; exact Nat.le_refl _
    | reg ops keep =>
      simp only [exec] at h
      split at h <;> cases h
      rename_i h1
      exact runOps_size hm h1
    | dreg ds keep =>
      simp only [exec] at h
      split at h <;> cases h
      rename_i h1
      have := runDs_size hm h1
      rw [pushAll_size]
      simpa using this
    | seq a b =>
      simp only [exec] at h
      split at h
      · rename_i h1
        exact Nat.le_trans (ih _ _ _ _ _ _ h1) (ih _ _ _ _ _ _ h)
      · exact ih _ _ _ _ _ _ h
    | cond x a b =>
      simp only [exec] at h
      split at h
      · exact ih _ _ _ _ _ _ h
      · exact ih _ _ _ _ _ _ h
      · cases h
    | blk id c =>
      simp only [exec] at h
      split at h
      · rename_i h1
        rw [cond_eq_ite] at h
        split at h <;> cases h <;> exact ih _ _ _ _ _ _ h1
      · exact ih _ _ _ _ _ _ h
    | loop c =>
      simp only [exec] at h
      split at h
      · rename_i h1
        exact Nat.le_trans (ih _ _ _ _ _ _ h1) (ih _ _ _ _ _ _ h)
      · exact ih _ _ _ _ _ _ h

/-- Code comes to what M says. -/
def CodeS (P : Program) (F : Nat → Option Fun) (n : Nat) : Prop :=
  ∀ (c : C) (code : Code) (nt : Nat) (φ : Phi) (e : Env) (a : Act) (H : Heap) (w : World) (o : Out) (e' : Env) (H' : Heap) (Q : Exit → Act → World → Prop),
    okCode P nt code c = true → exec F n c e H = some (o, e', H') → EnvR φ e a.tmps → a.tmps.size = nt → Rel φ H w → Fresh φ H H' →
    (∀ a' w', Ends P nt φ H w a.defers e' H' a' w' → Q (exitOf o) a' w') → code.wp P Q a w
def resM (tmps : Array Value) (x : ResultVar) : Sem Value := match x with
  | .tmp t => pure (tmps.getD t undef)
  | .cell a t => do loadVar t (← asAddr (tmps.getD a undef))
theorem resS {P : Program} {φ : Phi} {e : Env} {H : Heap} {w : World} {tmps : Array Value} (he : EnvR φ e tmps) (hr : Rel φ H w) : ∀ {rv : List ResultVar} {res : List R} {rs : List Value}, okRes P rv res = true → resOf e H res = some rs →
    ∃ vs, (rv.mapM (resM tmps)).run P w = .ok vs w ∧ LR (VR φ) rs vs
  | [], [], rs, _, h => by cases h; exact ⟨[], by simp, trivial⟩
  | .tmp t :: r, .t n :: s, rs, hok, h => by
    obtain ⟨h1, h2⟩ := ok_and hok
    rw [beq_eq, decide_eq_true_eq] at h1
    subst h1
    unfold resOf at h
    split at h <;> cases h
    rename_i v vs hv hvs
    obtain ⟨v', g1, g2⟩ := he _ _ hv
    obtain ⟨vs', g3, g4⟩ := resS he hr h2 hvs
    have g1' : tmps.getD t undef = v' := by simp [g1]
    exact ⟨v' :: vs', by simp [List.mapM_cons, resM, g1', g3], g2, g4⟩
  | .cell a t :: r, .c b agg n :: s, rs, hok, h => by
    obtain ⟨h1, hok⟩ := ok_and hok
    obtain ⟨h2, hok⟩ := ok_and hok
    obtain ⟨h3, h4⟩ := ok_and hok
    rw [beq_eq, decide_eq_true_eq] at h1
    subst h1
    unfold resOf at h
    split at h <;> try cases h
    rename_i b off vs hv hvs
    split at h <;> try cases h
    rename_i cs hcs
    obtain ⟨v', g1, g2⟩ := he _ _ hv
    obtain ⟨vs', g3, g4⟩ := resS he hr h4 hvs
    have g1' : tmps.getD a undef = v' := by simp [g1]
    obtain ⟨_, p, hp, e1⟩ := g2
    obtain ⟨p', hp', hlen, cs', hl, hcell⟩ := hr.loadN hcs
    rw [hp] at hp'
    cases hp'
    subst e1
    cases agg with
    | true =>
      simp only [cond_true] at h
      cases h
      have hn : n = cs'.length := by rw [← hl.length, hlen]
      have hsz := run_sizeOf' (by simpa using h3) w
      rw [hn] at hsz
      have hld := run_loadCells_list (P := P) w ⟨p.r, p.o + off, none⟩ cs' hcell
      exact ⟨.agg cs'.toArray :: vs', by simp [List.mapM_cons, resM, g1', g3, asAddr, loadVar, run_isAgg' h2, hsz, hld], VR.agg hl, g4⟩
    | false =>
      simp only [cond_false] at h
      split at h <;> cases h
      rename_i u
      obtain ⟨u', z, e2, k2, k3⟩ := LR.cons_left hl
      have := LR.nil_left k3
      subst this
      subst e2
      have hld := hcell 0 u' rfl
      simp only [add_at, Nat.add_zero] at hld
      exact ⟨u' :: vs', by simp [List.mapM_cons, resM, g1', g3, asAddr, loadVar, run_isAgg' h2, hld], VR.of_VR0 k2, g4⟩
  | [], _ :: _, _, h, _ => by simp [okRes] at h
  | _ :: _, [], _, h, _ => by simp [okRes] at h
  | .tmp _ :: _, .c _ _ _ :: _, _, h, _ => by simp [okRes] at h
  | .cell _ _ :: _, .t _ :: _, _, h, _ => by simp [okRes] at h

theorem look_enumFrom : ∀ {vs : List Value} {i t : Nat} {v : Value}, look (enumFrom i vs) t = some v → ∃ j, t = i + j ∧ vs[j]? = some v
  | [], i, t, v, h => by simp [enumFrom, look] at h
  | u :: r, i, t, v, h => by
    simp only [enumFrom, look, beq_eq, cond_eq_ite, decide_eq_true_eq] at h
    split at h
    · rename_i e; cases h; exact ⟨0, e.symm, rfl⟩
    · obtain ⟨j, h1, h2⟩ := look_enumFrom h
      exact ⟨j + 1, by omega, by simpa using h2⟩

theorem callsS (hF : Funs P F) {n : Nat} (hc : CodeS P F n) : CallS P (callOf F (exec F n)) := by
  intro f vs H v H' h
  unfold callOf at h
  split at h
  · cases h
  · rename_i k hk
    obtain ⟨h1, h2, h3⟩ := hF.known f k hk vs H v H' h
    exact ⟨h1, h3⟩
  · rename_i m hm
    rw [cond_eq_ite] at h
    split at h <;> try cases h
    rename_i hna
    rw [beq_eq, decide_eq_true_eq] at hna
    obtain ⟨o, e, rs, h1, h2, h3, h4⟩ := finish_spec h
    have hok := hF.code f m hm
    unfold okFun at hok
    split at hok
    · rename_i fn hfn
      split at hok
      · rename_i c hbody
        obtain ⟨k1, hok⟩ := ok_and hok
        obtain ⟨k2, hok⟩ := ok_and hok
        obtain ⟨k3, k4⟩ := ok_and hok
        have k2 := Nat.le_of_ble_eq_true k2
        refine ⟨⟨fn, hfn, by simpa using k1, by simp [hbody]⟩, fun φ w args hl hr hf => ?_⟩
        have hlen : args.size = m.na := by rw [← hna, hl.length]; simp
        refine calls_of_wp hfn hbody (hc m.body c fn.ntmps φ (enumFrom 0 vs) _ H w o e H' _ k4 h1 (fun t u hu => ?_) (by simp; omega) hr hf ?_)
        · obtain ⟨j, e1, e2⟩ := look_enumFrom hu
          rw [Nat.zero_add] at e1
          subst e1
          obtain ⟨u', g1, g2⟩ := hl.get _ _ e2
          have : t < args.size := by have := (List.getElem?_eq_some_iff.1 g1).1; simpa using this
          exact ⟨u', by rw [Array.getElem?_append_left this]; simpa using g1, g2⟩
        · rintro a' w' ⟨φ', g1, g2, g3, g4, g5⟩
          obtain ⟨vs', q1, q2⟩ := resS (P := P) g1 g4 k3 h3
          have fin : ∃ v', (results fn a'.tmps).run P w' = .ok v' w' ∧ VR φ' v v' := by
            have q3 : (results fn a'.tmps).run P w' = .ok (if h : vs'.toArray.size = 1 then vs'.toArray[0] else .tuple vs'.toArray) w' := by
              have q4 : results fn a'.tmps = (do
                  let vs ← fn.results.mapM (resM a'.tmps)
                  pure (if h : vs.size = 1 then vs[0] else .tuple vs)) := rfl
              rw [q4, Array.mapM_eq_mapM_toList]
              simp [q1]
            refine ⟨_, q3, ?_⟩
            unfold resV at h4
            split at h4
            · cases h4
              obtain ⟨u', z, e2, k2, k3⟩ := LR.cons_left q2
              have := LR.nil_left k3
              subst this
              subst e2
              simpa using k2
            · rename_i hne
              rw [cond_eq_ite] at h4
              split at h4 <;> cases h4
              rename_i hall
              have : ¬ vs'.toArray.size = 1 := by
                intro e9
                have e8 := q2.length
                simp at e9
                rw [e9] at e8
                match rs, e8, hne with
                | [u], _, hne => exact hne u rfl
              rw [dif_neg this]
              exact ⟨_, rfl, by simpa using q2.simple hall⟩
          obtain ⟨v', f1, f2⟩ := fin
          rcases h2 with rfl | rfl
          · exact ⟨g3, v', f1, v', φ', rfl, f2, g4, g5⟩
          · exact ⟨g3, v', f1, v', φ', rfl, f2, g4, g5⟩
      · cases hok
    · cases hok

theorem Ends.keep {nt : Nat} {φ : Phi} {H : Heap} {w : World} {df : List Deferred} {e' : Env} {H' : Heap} {a' : Act} {w' : World} (h : Ends P nt φ H w df e' H' a' w') (ks : List Nat) : Ends P nt φ H w df (keepOf e' ks) H' a' w' := by
  obtain ⟨φ', h1, h2⟩ := h.out
  exact ⟨φ', h1.keep ks, h2⟩
theorem Ends.trans {nt : Nat} {φ φ1 : Phi} {H H1 : Heap} {w w1 : World} {df : List Deferred} {e' : Env} {H' : Heap} {a' : Act} {w' : World} (h : Step φ H w φ1 H1 w1) (k : Ends P nt φ1 H1 w1 df e' H' a' w') : Ends P nt φ H w df e' H' a' w' := by
  obtain ⟨φ', h1, h2, h3, h4, h5⟩ := k.out
  exact ⟨φ', h1, h2, h3, h4, h.trans h5⟩

theorem codeS (hF : Funs P F) : ∀ n, CodeS P F n ∧ ∀ (c : C) (code : Code) (nt : Nat) (φ : Phi) (e : Env) (a : Act) (H : Heap) (w : World) (o : Out) (e' : Env) (H' : Heap) (Q : Exit → Act → World → Prop),
    okCode P nt code c = true → exec F n (.loop c) e H = some (o, e', H') → EnvR φ e a.tmps → a.tmps.size = nt → Rel φ H w → Fresh φ H H' →
    (∀ a' w', Ends P nt φ H w a.defers e' H' a' w' → Q (exitOf o) a' w') → Code.rounds P code Q n a w := by
  intro n
  induction n with
  | zero => exact ⟨fun c code nt φ e a H w o e' H' Q _ h => by simp [exec] at h, fun c code nt φ e a H w o e' H' Q _ h => by simp [exec] at h⟩
  | succ n ih =>
    obtain ⟨ihC, ihL⟩ := ih
    have hcs := callsS hF ihC
    have hm := callOf_mono hF (exec_size hF n)
    have loopS : ∀ (c : C) (code : Code) (nt : Nat) (φ : Phi) (e : Env) (a : Act) (H : Heap) (w : World) (o : Out) (e' : Env) (H' : Heap) (Q : Exit → Act → World → Prop),
        okCode P nt code c = true → exec F (n + 1) (.loop c) e H = some (o, e', H') → EnvR φ e a.tmps → a.tmps.size = nt → Rel φ H w → Fresh φ H H' →
        (∀ a' w', Ends P nt φ H w a.defers e' H' a' w' → Q (exitOf o) a' w') → Code.rounds P code Q (n + 1) a w := by
      intro c code nt φ e a H w o e' H' Q hok hrun he hs hr hf hQ
      rw [rounds_succ]
      simp only [exec] at hrun
      split at hrun
      · rename_i e1 H1 h1
        have hsz := exec_size hF n _ _ _ _ _ _ hrun
        refine ihC c code nt φ e a H w .nrm e1 H1 _ hok h1 he hs hr (hf.left hsz) ?_
        rintro a1 w1 ⟨φ1, g1, g2, g3, g4, g5⟩
        refine ihL c code nt φ1 e1 a1 H1 w1 o e' H' Q hok hrun g1 g2 g4 (hf.right g5) ?_
        intro a' w' h
        rw [g3] at h
        exact hQ a' w' (h.trans g5)
      · rename_i hne
        refine ihC c code nt φ e a H w o e' H' _ hok hrun he hs hr hf ?_
        intro a' w' h
        cases o with
        | nrm => exact (hne e' H' hrun).elim
        | ex id => exact hQ a' w' h
        | ret => exact hQ a' w' h
    refine ⟨?_, loopS⟩
    intro c code nt φ e a H w o e' H' Q hok hrun he hs hr hf hQ
    cases c with
    | skip =>
      cases code <;> simp only [okCode] at hok <;> try cases hok
      cases hrun
      exact wp_skip (hQ a w ⟨φ, he, hs, rfl, hr, Step.refl _ _ _⟩)
    | dead => cases hrun
    | ret =>
      cases code <;> simp only [okCode] at hok <;> try cases hok
      cases hrun
      exact wp_ret (hQ a w ⟨φ, he, hs, rfl, hr, Step.refl _ _ _⟩)
    | exit id =>
      cases code <;> simp only [okCode] at hok <;> try cases hok
      rw [beq_eq, decide_eq_true_eq] at hok
      subst hok
      cases hrun
      exact wp_exit (hQ a w ⟨φ, he, hs, rfl, hr, Step.refl _ _ _⟩)
    | reg ms keep =>
      cases code with
      | region id ops dr =>
        cases dr with
        | false =>
          simp only [okCode] at hok
          simp only [exec] at hrun
          split at hrun <;> cases hrun
          rename_i e1 h1
          exact wp_region_list (opsS hcs hm hok he hs hr hf h1 fun a' w' h => hQ a' w' (h.keep keep))
        | true => simp [okCode] at hok
      | _ => simp [okCode] at hok
    | dreg ds keep =>
      cases code with
      | region id ops dr =>
        cases dr with
        | false => simp [okCode] at hok
        | true =>
          simp only [okCode] at hok
          simp only [exec] at hrun
          split at hrun <;> cases hrun
          rename_i s h1
          refine wp_region_any hF.mixed (drawS hcs hm hok he hs (hr.drew rfl) hf h1 ?_)
          rintro a' w' h
          exact hQ a' w' (Ends.trans (w1 := { w with drawn := w.drawn + 1 }) (Step.drew rfl rfl rfl rfl) (h.keep keep))
      | _ => simp [okCode] at hok
    | seq x y =>
      cases code with
      | seq cx cy =>
        obtain ⟨k1, k2⟩ := ok_and hok
        apply wp_seq
        simp only [exec] at hrun
        split at hrun
        · rename_i e1 H1 h1
          have hsz := exec_size hF n _ _ _ _ _ _ hrun
          refine ihC x cx nt φ e a H w .nrm e1 H1 _ k1 h1 he hs hr (hf.left hsz) ?_
          rintro a1 w1 ⟨φ1, g1, g2, g3, g4, g5⟩
          refine ihC y cy nt φ1 e1 a1 H1 w1 o e' H' Q k2 hrun g1 g2 g4 (hf.right g5) ?_
          intro a' w' h
          rw [g3] at h
          exact hQ a' w' (h.trans g5)
        · rename_i hne
          refine ihC x cx nt φ e a H w o e' H' _ k1 hrun he hs hr hf ?_
          intro a' w' h
          cases o with
          | nrm => exact (hne e' H' hrun).elim
          | ex id => exact hQ a' w' h
          | ret => exact hQ a' w' h
      | _ => simp [okCode] at hok
    | cond z x y =>
      cases code with
      | cond oz cx cy =>
        obtain ⟨k1, k2⟩ := ok_and hok
        obtain ⟨k2, k3⟩ := ok_and k2
        simp only [exec] at hrun
        split at hrun
        · rename_i hz
          have := (okX_ev he k1 hz).bool
          exact wp_cond (t := true) this (ihC x cx nt φ e a H w o e' H' Q k2 hrun he hs hr hf hQ)
        · rename_i hz
          have := (okX_ev he k1 hz).bool
          exact wp_cond (t := false) this (by simpa using ihC y cy nt φ e a H w o e' H' Q k3 hrun he hs hr hf hQ)
        · cases hrun
      | _ => simp [okCode] at hok
    | blk id x =>
      cases code with
      | block id2 cx =>
        obtain ⟨k1, k2⟩ := ok_and hok
        rw [beq_eq, decide_eq_true_eq] at k1
        subst k1
        apply wp_block
        simp only [exec] at hrun
        split at hrun
        · rename_i id' e1 H1 h1
          simp only [beq_eq, cond_eq_ite, decide_eq_true_eq] at hrun
          split at hrun
          · rename_i e9
            cases hrun
            refine ihC x cx nt φ e a H w (.ex id') e' H' _ k2 h1 he hs hr hf ?_
            intro a' w' h
            simp only [exitOf, Exit.inBlock, if_pos e9]
            exact hQ a' w' h
          · rename_i e9
            cases hrun
            refine ihC x cx nt φ e a H w (.ex id') e' H' _ k2 h1 he hs hr hf ?_
            intro a' w' h
            simp only [exitOf, Exit.inBlock, if_neg e9]
            exact hQ a' w' h
        · rename_i hne
          refine ihC x cx nt φ e a H w o e' H' _ k2 hrun he hs hr hf ?_
          intro a' w' h
          cases o with
          | nrm => exact hQ a' w' h
          | ex id => exact (hne id e' H' hrun).elim
          | ret => exact hQ a' w' h
      | _ => simp [okCode] at hok
    | loop x =>
      cases code with
      | loop cx => exact wp_loop_rounds (n + 1) (loopS x cx nt φ e a H w o e' H' Q hok hrun he hs hr hf hQ)
      | _ => simp [okCode] at hok

def lookF : List (Nat × Fun) → Nat → Option Fun
  | [], _ => none
  | (k, v) :: r, f => bif Nat.beq k f then some v else lookF r f
def GoodF (P : Program) : Nat → Fun → Prop
  | f, .code m => okFun P f m = true
  | f, .known k => KnownS P f k
def AllF (P : Program) : List (Nat × Fun) → Prop
  | [] => True
  | (f, x) :: r => GoodF P f x ∧ AllF P r
theorem lookF_good {P : Program} : ∀ {L : List (Nat × Fun)}, AllF P L → ∀ {f x}, lookF L f = some x → GoodF P f x
  | (k, v) :: r, h, f, x, hx => by
    simp only [lookF, beq_eq, cond_eq_ite, decide_eq_true_eq] at hx
    split at hx
    · rename_i e; subst e; cases hx; exact h.1
    · exact lookF_good h.2 hx
theorem Funs.of_list {P : Program} {L : List (Nat × Fun)} (hm : P.follows .mixedOrders = true) (h : AllF P L) : Funs P (lookF L) :=
  ⟨hm, fun _ _ hx => lookF_good h hx, fun _ _ hx => lookF_good h hx⟩
/-- M's calls are the program's. -/
theorem callN_spec (hF : Funs P F) (n : Nat) : CallS P (callN F n) := callsS hF (codeS hF n).1
end

end Go.Proofs.Ytnjmdkecpadehaa.M
