/- The framework M, eighteenth text: rules to reckon with M's runs; contracts of functions. Conditions: as the laws say. -/
import Derived.Test.YtnjmdkecpadehaaMCode
set_option linter.all false
set_option linter.unusedSimpArgs false
namespace Go.Proofs.Ytnjmdkecpadehaa.M

/-! ### More rounds change nothing -/
def CallLe (call call' : CallFn) : Prop := ∀ f vs H r, call f vs H = some r → call' f vs H = some r
theorem I.run_le {call call' : CallFn} (h : CallLe call call') {i : I} {e : Env} {H : Heap} {r : Value × Heap} (hr : i.run call e H = some r) : i.run call' e H = some r := by
  cases i <;> try exact hr
  case call f xs =>
    simp only [I.run] at hr ⊢
    split at hr
    · exact h _ _ _ _ hr
    · cases hr
  case callv f xs =>
    simp only [I.run] at hr ⊢
    split at hr
    · exact h _ _ _ _ hr
    · cases hr
theorem O.run_le {call call' : CallFn} (h : CallLe call call') {o : O} {e : Env} {H : Heap} {r : Env × Heap} (hr : o.run call e H = some r) : o.run call' e H = some r := by
  unfold O.run at hr ⊢
  split at hr
  · cases hr
  · exact hr
  · split at hr <;> cases hr
    rename_i hi
    simp only [I.run_le h hi]
theorem runOps_le {call call' : CallFn} (h : CallLe call call') : ∀ {ops : List O} {e : Env} {H : Heap} {r : Env × Heap}, runOps call ops e H = some r → runOps call' ops e H = some r
  | [], e, H, r, hr => hr
  | o :: l, e, H, r, hr => by
    unfold runOps at hr ⊢
    split at hr
    · rename_i ho
      simp only [O.run_le h ho]
      exact runOps_le h hr
    · cases hr
theorem D.run_le {call call' : CallFn} (h : CallLe call call') {k : Nat} {d : D} {s s' : DS} (hr : d.run call k s = some s') : d.run call' k s = some s' := by
  unfold D.run at hr ⊢
  split at hr
  · cases hr
  · exact hr
  · split at hr
    · split at hr <;> cases hr
      rename_i hi
      simp only [I.run_le h hi]
    · split at hr
      · rename_i hi
        simp only [I.run_le h hi]
        exact hr
      · cases hr
    · exact hr
    · split at hr
      · rename_i hi
        simp only [I.run_le h hi]
        exact hr
      · cases hr
theorem runDs_le {call call' : CallFn} (h : CallLe call call') : ∀ {ds : List D} {k : Nat} {s s' : DS}, runDs call k ds s = some s' → runDs call' k ds s = some s'
  | [], k, s, s', hr => hr
  | d :: l, k, s, s', hr => by
    unfold runDs at hr ⊢
    split at hr
    · rename_i hd
      simp only [D.run_le h hd]
      exact runDs_le h hr
    · cases hr
section
variable {F : Nat → Option Fun}
def ExLe (ex ex' : C → Env → Heap → Option Done) : Prop := ∀ c e H r, ex c e H = some r → ex' c e H = some r
theorem callOf_le {ex ex' : C → Env → Heap → Option Done} (h : ExLe ex ex') : CallLe (callOf F ex) (callOf F ex') := by
  intro f vs H r hr
  unfold callOf at hr ⊢
  split at hr
  · cases hr
  · exact hr
  · rename_i m hm
    rw [cond_eq_ite] at hr ⊢
    split at hr
    · rename_i hl
      simp only [hl, if_true]
      cases hx : ex m.body (enumFrom 0 vs) H with
      | none => rw [hx] at hr; cases hr
      | some d => rw [hx] at hr; rw [h _ _ _ _ hx]; exact hr
    · cases hr
theorem exec_reg {n : Nat} {ops : List O} {keep : List Nat} {e : Env} {H : Heap} : exec F (n + 1) (.reg ops keep) e H = (match runOps (callOf F (exec F n)) ops e H with
    | some (e', H') => some (.nrm, keepOf e' keep, H')
    | none => none) := rfl
theorem exec_dreg {n : Nat} {ops : List D} {keep : List Nat} {e : Env} {H : Heap} : exec F (n + 1) (.dreg ops keep) e H = (match runDs (callOf F (exec F n)) 0 ops ⟨e, H, [], [], []⟩ with
    | some s => some (.nrm, keepOf s.e keep, pushAll s.H s.pend)
    | none => none) := rfl
theorem exec_seq {n : Nat} {a b : C} {e : Env} {H : Heap} : exec F (n + 1) (.seq a b) e H = (match exec F n a e H with
    | some (.nrm, e', H') => exec F n b e' H'
    | r => r) := rfl
theorem exec_cond {n : Nat} {x : X} {a b : C} {e : Env} {H : Heap} : exec F (n + 1) (.cond x a b) e H = (match x.ev e with
    | some (.bool true) => exec F n a e H
    | some (.bool false) => exec F n b e H
    | _ => none) := rfl
theorem exec_blk {n : Nat} {id : Nat} {c : C} {e : Env} {H : Heap} : exec F (n + 1) (.blk id c) e H = (match exec F n c e H with
    | some (.ex id', e', H') => bif Nat.beq id' id then some (.nrm, e', H') else some (.ex id', e', H')
    | r => r) := rfl
theorem exec_loop {n : Nat} {c : C} {e : Env} {H : Heap} : exec F (n + 1) (.loop c) e H = (match exec F n c e H with
    | some (.nrm, e', H') => exec F n (.loop c) e' H'
    | r => r) := rfl
theorem exec_succ : ∀ n, ExLe (exec F n) (exec F (n + 1))
  | 0, c, e, H, r, h => by simp [exec] at h
  | n + 1, c, e, H, r, h => by
    have ih := exec_succ n
    have hc := callOf_le (F := F) ih
    cases c with
    | skip => exact h
    | ret => exact h
    | dead => exact h
    | exit id => exact h
    | reg ops keep =>
      rw [exec_reg] at h ⊢
      split at h
      · rename_i h1; simp only [runOps_le hc h1]; exact h
      · cases h
    | dreg ds keep =>
      rw [exec_dreg] at h ⊢
      split at h
      · rename_i h1; simp only [runDs_le hc h1]; exact h
      · cases h
    | seq a b =>
      rw [exec_seq] at h ⊢
      split at h
      · rename_i h1
        simp only [ih _ _ _ _ h1]
        exact ih _ _ _ _ h
      · rename_i hne
        cases ha : exec F n a e H with
        | none => rw [ha] at h; cases h
        | some d =>
          have := ih _ _ _ _ ha
          obtain ⟨o, e1, H1⟩ := d
          rw [this]
          rw [ha] at h
          cases h
          cases o with
          | nrm => exact (hne _ _ ha).elim
          | ex id => rfl
          | ret => rfl
    | cond x a b =>
      rw [exec_cond] at h ⊢
      split at h
      · exact ih _ _ _ _ h
      · exact ih _ _ _ _ h
      · cases h
    | blk id c =>
      rw [exec_blk] at h ⊢
      cases ha : exec F n c e H with
      | none => rw [ha] at h; cases h
      | some d =>
        have := ih _ _ _ _ ha
        rw [ha] at h
        rw [this]
        exact h
    | loop c =>
      rw [exec_loop] at h ⊢
      split at h
      · rename_i h1
        simp only [ih _ _ _ _ h1]
        exact ih _ _ _ _ h
      · rename_i hne
        cases ha : exec F n c e H with
        | none => rw [ha] at h; cases h
        | some d =>
          have := ih _ _ _ _ ha
          obtain ⟨o, e1, H1⟩ := d
          rw [this]
          rw [ha] at h
          cases h
          cases o with
          | nrm => exact (hne _ _ ha).elim
          | ex id => rfl
          | ret => rfl
theorem exec_le {n m : Nat} (h : n ≤ m) : ExLe (exec F n) (exec F m) := by
  obtain ⟨k, rfl⟩ : ∃ k, m = n + k := ⟨m - n, by omega⟩
  induction k with
  | zero => exact fun _ _ _ _ h => h
  | succ k ih => exact fun c e H r hr => exec_succ _ _ _ _ _ (ih (by omega) c e H r hr)

/-! ### Runs without a count -/
/-- The calls of the functions that are known. -/
def callK (F : Nat → Option Fun) : CallFn := fun f vs H => match F f with
  | some (.known k) => k vs H
  | _ => none
theorem callK_le {ex : C → Env → Heap → Option Done} : CallLe (callK F) (callOf F ex) := by
  intro f vs H r h
  unfold callK at h
  unfold callOf
  split at h
  · rename_i hk; rw [hk]; exact h
  · cases h
def Wp (F : Nat → Option Fun) (c : C) (e : Env) (H : Heap) (Q : Out → Env → Heap → Prop) : Prop := ∃ n o e' H', exec F n c e H = some (o, e', H') ∧ Q o e' H'
/-- Behind a piece that ends as it should, the next. -/
def Then (K : Env → Heap → Prop) (Q : Out → Env → Heap → Prop) : Out → Env → Heap → Prop
  | .nrm, e, H => K e H
  | o, e, H => Q o e H
def InBlk (id : Nat) (Q : Out → Env → Heap → Prop) : Out → Env → Heap → Prop
  | .ex i, e, H => if i = id then Q .nrm e H else Q (.ex i) e H
  | o, e, H => Q o e H
variable {e : Env} {H : Heap} {Q : Out → Env → Heap → Prop}
theorem Wp.skip (h : Q .nrm e H) : Wp F .skip e H Q := ⟨1, _, _, _, rfl, h⟩
theorem Wp.ret (h : Q .ret e H) : Wp F .ret e H Q := ⟨1, _, _, _, rfl, h⟩
theorem Wp.exit {id : Nat} (h : Q (.ex id) e H) : Wp F (.exit id) e H Q := ⟨1, _, _, _, rfl, h⟩
theorem Wp.reg {ops : List O} {keep : List Nat} {e1 : Env} {H1 : Heap} (h1 : runOps (callK F) ops e H = some (e1, H1)) (h : Q .nrm (keepOf e1 keep) H1) : Wp F (.reg ops keep) e H Q :=
  ⟨1, .nrm, keepOf e1 keep, H1, by simp only [exec_reg, runOps_le callK_le h1], h⟩
theorem Wp.dreg {ops : List D} {keep : List Nat} {s : DS} (h1 : runDs (callK F) 0 ops ⟨e, H, [], [], []⟩ = some s) (h : Q .nrm (keepOf s.e keep) (pushAll s.H s.pend)) : Wp F (.dreg ops keep) e H Q :=
  ⟨1, .nrm, keepOf s.e keep, pushAll s.H s.pend, by simp only [exec_dreg, runDs_le callK_le h1], h⟩
theorem Wp.seq {a b : C} (h : Wp F a e H (Then (fun e H => Wp F b e H Q) Q)) : Wp F (.seq a b) e H Q := by
  obtain ⟨n, o, e1, H1, h1, h2⟩ := h
  cases o with
  | nrm =>
    obtain ⟨m, o2, e2, H2, h3, h4⟩ := h2
    refine ⟨max n m + 1, o2, e2, H2, ?_, h4⟩
    simp only [exec_seq, exec_le (Nat.le_max_left n m) _ _ _ _ h1]
    exact exec_le (Nat.le_max_right n m) _ _ _ _ h3
  | ex id => exact ⟨n + 1, .ex id, e1, H1, by simp only [exec_seq, h1], h2⟩
  | ret => exact ⟨n + 1, .ret, e1, H1, by simp only [exec_seq, h1], h2⟩
theorem Wp.cond {x : X} {a b : C} {p : Bool} (hx : x.ev e = some (.bool p)) (h1 : p = true → Wp F a e H Q) (h2 : p = false → Wp F b e H Q) : Wp F (.cond x a b) e H Q := by
  cases p with
  | true =>
    obtain ⟨n, o, e1, H1, k1, k2⟩ := h1 rfl
    exact ⟨n + 1, o, e1, H1, by simp only [exec_cond, hx]; exact k1, k2⟩
  | false =>
    obtain ⟨n, o, e1, H1, k1, k2⟩ := h2 rfl
    exact ⟨n + 1, o, e1, H1, by simp only [exec_cond, hx]; exact k1, k2⟩
theorem Wp.blk {id : Nat} {c : C} (h : Wp F c e H (InBlk id Q)) : Wp F (.blk id c) e H Q := by
  obtain ⟨n, o, e1, H1, k1, k2⟩ := h
  cases o with
  | nrm => exact ⟨n + 1, .nrm, e1, H1, by simp only [exec_blk, k1], k2⟩
  | ret => exact ⟨n + 1, .ret, e1, H1, by simp only [exec_blk, k1], k2⟩
  | ex i =>
    by_cases hi : i = id
    · simp only [InBlk, if_pos hi] at k2
      refine ⟨n + 1, .nrm, e1, H1, ?_, k2⟩
      simp only [exec_blk, k1, beq_eq, decide_eq_true hi, cond_true]
    · simp only [InBlk, if_neg hi] at k2
      refine ⟨n + 1, .ex i, e1, H1, ?_, k2⟩
      simp only [exec_blk, k1, beq_eq, decide_eq_false hi, cond_false]
theorem Wp.loop {c : C} (h : Wp F c e H (Then (fun e H => Wp F (.loop c) e H Q) Q)) : Wp F (.loop c) e H Q := by
  obtain ⟨n, o, e1, H1, h1, h2⟩ := h
  cases o with
  | nrm =>
    obtain ⟨m, o2, e2, H2, h3, h4⟩ := h2
    refine ⟨max n m + 1, o2, e2, H2, ?_, h4⟩
    simp only [exec_loop, exec_le (Nat.le_max_left n m) _ _ _ _ h1]
    exact exec_le (Nat.le_max_right n m) _ _ _ _ h3
  | ex id => exact ⟨n + 1, .ex id, e1, H1, by simp only [exec_loop, h1], h2⟩
  | ret => exact ⟨n + 1, .ret, e1, H1, by simp only [exec_loop, h1], h2⟩
theorem Wp.mono {c : C} {Q' : Out → Env → Heap → Prop} (h : Wp F c e H Q) (hq : ∀ o e H, Q o e H → Q' o e H) : Wp F c e H Q' := by
  obtain ⟨n, o, e1, H1, h1, h2⟩ := h
  exact ⟨n, o, e1, H1, h1, hq _ _ _ h2⟩
/-- A body that comes to its end. -/
def Body (res : List R) (Q : Value → Heap → Prop) : Out → Env → Heap → Prop := fun o e H => (o = .nrm ∨ o = .ret) ∧ ∃ rs v, resOf e H res = some rs ∧ resV rs = some v ∧ Q v H
theorem Wp.call {f : Nat} {m : MF} (hf : F f = some (.code m)) {vs : List Value} {Q : Value → Heap → Prop} (hn : vs.length = m.na) (h : Wp F m.body (enumFrom 0 vs) H (Body m.res Q)) :
    ∃ n v H', callN F n f vs H = some (v, H') ∧ Q v H' := by
  obtain ⟨n, o, e1, H1, h1, h2, rs, v, h3, h4, h5⟩ := h
  refine ⟨n, v, H1, ?_, h5⟩
  unfold callN callOf
  rw [hf]
  simp only [hn, beq_eq, decide_true, cond_true, h1]
  rcases h2 with rfl | rfl <;> simp only [finish, h3, h4]
end

/-! ### Contracts -/
/-- H' holds what H held. -/
def Keeps (H H' : Heap) : Prop := H.size ≤ H'.size ∧ ∀ b row, H.get b = some row → H'.get b = some row
theorem Keeps.refl (H : Heap) : Keeps H H := ⟨Nat.le_refl _, fun _ _ h => h⟩
theorem Keeps.trans {H H1 H2 : Heap} (h : Keeps H H1) (k : Keeps H1 H2) : Keeps H H2 := ⟨Nat.le_trans h.1 k.1, fun b row e => k.2 b row (h.2 b row e)⟩
/-- No row lies beyond the heap's size. -/
def Heap.ok (H : Heap) : Prop := ∀ b row, H.get b = some row → b < H.size
theorem Rel.ok {φ : Phi} {H : Heap} {w : World} (h : Rel φ H w) : H.ok := h.top
theorem Keeps.push {H : Heap} (h : H.ok) (r : Row) : Keeps H (H.push r) := ⟨by rw [Heap.size_push]; omega, fun b row e => by rw [Heap.get_push, if_neg (by have := h b row e; omega)]; exact e⟩
theorem Heap.ok_push {H : Heap} (h : H.ok) (r : Row) : (H.push r).ok := fun b row e => by
  rw [Heap.get_push] at e
  rw [Heap.size_push]
  split at e
  · omega
  · have := h b row e; omega

theorem VR0.back {φ φ' : Phi} (hle : Le φ φ') {v v1 v2 : Value} (h1 : VR0 φ v v1) (h2 : VR0 φ' v v2) : VR0 φ v v2 := by
  unfold VR0 at h1 h2 ⊢
  split at h1 <;> first
    | exact h2
    | exact h1.elim
    | (obtain ⟨_, p, hp, _⟩ := h1
       obtain ⟨a, p', hp', e⟩ := h2
       rw [hle _ _ hp] at hp'
       cases hp'
       exact ⟨a, p, hp, e⟩)
    | (obtain ⟨_, p, c1, a1, hp, _⟩ := h1
       obtain ⟨a, p', c', a', hp', e⟩ := h2
       rw [hle _ _ hp] at hp'
       cases hp'
       exact ⟨a, p, c', a', hp, e⟩)
/-- Values that hold no address. -/
def plainR : Value → Bool
  | .int _ _ => true
  | .bool _ => true
  | .string _ => true
  | .nilIface => true
  | .nilFunc => true
  | .pointer none => true
  | .slice none n c => Nat.beq n 0 && Nat.beq c 0
  | _ => false
theorem plainR_spec {v : Value} (h : plainR v = true) {φ φ' : Phi} {v' : Value} (hv : VR φ v v') : VR φ' v v' := by
  unfold plainR at h
  split at h <;> first
    | exact hv
    | cases h
def plainT (v : Value) : Bool := match v with
  | .tuple vs => vs.toList.all plainR
  | v => plainR v
theorem plainT_spec {v : Value} (h : plainT v = true) {φ φ' : Phi} {v' : Value} (hv : VR φ v v') : VR φ' v v' := by
  unfold plainT at h
  split at h
  · rename_i vs
    obtain ⟨vs', rfl, l⟩ := hv
    refine ⟨vs', rfl, ?_⟩
    generalize vs.toList = x at h l
    generalize vs'.toList = y at l
    induction x generalizing y with
    | nil => cases y with
      | nil => exact trivial
      | cons => exact l.elim
    | cons a x ih => cases y with
      | nil => exact l.elim
      | cons b y =>
        simp only [List.all_cons, Bool.and_eq_true] at h
        refine ⟨?_, ih h.2 y l.2⟩
        have h1 := h.1
        have l1 := l.1
        unfold plainR at h1
        split at h1 <;> first
          | exact l1
          | cases h1
  · exact plainR_spec h hv
/-- A heap whose new rows are forgotten. -/
theorem Rel.forget {φ φ' : Phi} {H H' : Heap} {w w' : World} (h0 : Rel φ H w) (h : Rel φ' H' w') (hs : Step φ H w φ' H' w') (hk : Keeps H H') : Rel φ H w' ∧ Step φ H w φ H w' := by
  refine ⟨⟨fun b row hb => ?_, fun b row p b' row' p' h1 h2 h3 h4 h5 h6 => h.apart b row p b' row' p' (hk.2 _ _ h1) (hs.le _ _ h2) (hk.2 _ _ h3) (hs.le _ _ h4) h5 h6, h0.top⟩, ⟨Le.refl _, fun _ _ => rfl, Nat.le_refl _, hs.os, hs.tape, hs.output, hs.size, fun k h1 h2 => ⟨(hs.keep k h1 h2).1, h2⟩, fun k h1 h2 => h2⟩⟩
  obtain ⟨p, hp, rr0⟩ := h0.row b row hb
  obtain ⟨p', hp', rr⟩ := h.row b row (hk.2 _ _ hb)
  rw [hs.le _ _ hp] at hp'
  cases hp'
  refine ⟨p, hp, rr.len, rr.es, rr.le, rr.lt, fun i v hv => ?_, rr.own⟩
  obtain ⟨v1, e1, e2⟩ := rr.cell i v hv
  obtain ⟨v0, _, e3⟩ := rr0.cell i v hv
  exact ⟨v1, e1, e3.back hs.le e2⟩
/-- A function without arguments whose run from the empty heap is known: it answers the same from any. -/
def closedF (v : Value) : List Value → Heap → Option (Value × Heap)
  | [], H => some (v, H)
  | _ :: _, _ => none
theorem okFun_callable {P : Program} {f : Nat} {m : MF} (hok : okFun P f m = true) : Callable P f := by
  unfold okFun at hok
  split at hok
  · rename_i fn hfn
    split at hok
    · rename_i c hbody
      obtain ⟨k1, _⟩ := ok_and hok
      exact ⟨fn, hfn, by simpa using k1, by simp [hbody]⟩
    · cases hok
  · cases hok
theorem KnownS.closed {P : Program} {F : Nat → Option Fun} (hF : Funs P F) {n f : Nat} {v : Value} {H1 : Heap} (hp : plainT v = true) (h : callN F n f [] Heap.none = some (v, H1)) : KnownS P f (closedF v) := by
  intro vs H v1 H' hk
  unfold closedF at hk
  split at hk <;> cases hk
  obtain ⟨hc, hcall⟩ := callN_spec hF n f [] Heap.none v H1 h
  refine ⟨hc, Nat.le_refl _, fun φ w args hl hr hf => ?_⟩
  have nothing : ∀ b, Heap.none.get b = none := fun b => rfl
  have hr0 : Rel (fun _ => none) Heap.none w := ⟨fun b row e => (by rw [nothing] at e; cases e), fun b row p b' row' p' e => (by rw [nothing] at e; cases e), fun b row e => (by rw [nothing] at e; cases e)⟩
  refine (hcall (fun _ => none) w args (by
    have := LR.nil_left hl
    rw [this]
    exact trivial) hr0 (fun b _ _ => rfl)).mono ?_
  rintro e w' ⟨v', φ', rfl, k1, k2, k3⟩
  have same : ∀ k, k < w.heap.size → w'.heap[k]? = w.heap[k]? := fun k hk => (k3.keep k hk (by rintro ⟨b, row, p, e, _⟩; rw [nothing] at e; cases e)).1
  refine ⟨v', φ, rfl, plainT_spec hp k1, ⟨fun b row hb => ?_, hr.apart, hr.top⟩, ⟨Le.refl _, fun _ _ => rfl, Nat.le_refl _, k3.os, k3.tape, k3.output, k3.size, fun k e1 e2 => ⟨same k e1, e2⟩, fun k _ e2 => e2⟩⟩
  obtain ⟨p, hp2, rr⟩ := hr.row b row hb
  have hs := same p.r rr.lt
  refine ⟨p, hp2, rr.len, rr.es, rr.le, Nat.lt_of_lt_of_le rr.lt k3.size, fun i u hu => ?_, fun ho => by rw [hs]; exact rr.own ho⟩
  obtain ⟨u', e1, e2⟩ := rr.cell i u hu
  exact ⟨u', by simpa [World.cell?, hs] using e1, e2⟩

def isTrue : Option (Value × Heap) → Bool
  | some (.bool true, _) => true
  | _ => false
theorem isTrue_spec {r : Option (Value × Heap)} (h : isTrue r = true) : ∃ H, r = some (.bool true, H) := by
  unfold isTrue at h
  split at h
  · exact ⟨_, rfl⟩
  · cases h

/-! ### Regions, one operation after the other -/
section
variable {F : Nat → Option Fun}
/-- A call that answers. -/
def Cw (F : Nat → Option Fun) (f : Nat) (vs : List Value) (H : Heap) (Q : Value → Heap → Prop) : Prop := ∃ n v H', callN F n f vs H = some (v, H') ∧ Q v H'
theorem Cw.code {f : Nat} {m : MF} (hf : F f = some (.code m)) {vs : List Value} {H : Heap} {Q : Value → Heap → Prop} (hn : vs.length = m.na) (h : Wp F m.body (enumFrom 0 vs) H (Body m.res Q)) : Cw F f vs H Q := Wp.call hf hn h
theorem Cw.known {f : Nat} {k : List Value → Heap → Option (Value × Heap)} (hf : F f = some (.known k)) {vs : List Value} {H H' : Heap} {v : Value} {Q : Value → Heap → Prop} (h : k vs H = some (v, H')) (hq : Q v H') : Cw F f vs H Q :=
  ⟨0, v, H', by unfold callN callOf; rw [hf]; exact h, hq⟩
theorem Cw.mono {f : Nat} {vs : List Value} {H : Heap} {Q Q' : Value → Heap → Prop} (h : Cw F f vs H Q) (hq : ∀ v H', Q v H' → Q' v H') : Cw F f vs H Q' := by
  obtain ⟨n, v, H', h1, h2⟩ := h
  exact ⟨n, v, H', h1, hq _ _ h2⟩
theorem callN_le {n m : Nat} (h : n ≤ m) : CallLe (callN F n) (callN F m) := callOf_le (exec_le h)
def WpO (F : Nat → Option Fun) (ops : List O) (e : Env) (H : Heap) (Q : Env → Heap → Prop) : Prop := ∃ n e' H', runOps (callN F n) ops e H = some (e', H') ∧ Q e' H'
variable {e : Env} {H : Heap}
theorem WpO.nil {Q : Env → Heap → Prop} (h : Q e H) : WpO F [] e H Q := ⟨0, e, H, rfl, h⟩
/-- One that calls nothing. -/
def noCall : CallFn := fun _ _ _ => none
theorem noCall_le (call : CallFn) : CallLe noCall call := fun _ _ _ _ h => by cases h
theorem WpO.cons {Q : Env → Heap → Prop} {o : O} {r : List O} {e1 : Env} {H1 : Heap} (h : o.run noCall e H = some (e1, H1)) (hr : WpO F r e1 H1 Q) : WpO F (o :: r) e H Q := by
  obtain ⟨n, e2, H2, h1, h2⟩ := hr
  exact ⟨n, e2, H2, by unfold runOps; simp only [O.run_le (noCall_le _) h]; exact h1, h2⟩
theorem WpO.op {Q : Env → Heap → Prop} {d : Option Nat} {i : I} {r : List O} {v : Value} {H1 : Heap} (h : i.run noCall e H = some (v, H1)) (hr : WpO F r (put e d v) H1 Q) : WpO F (⟨d, none, i⟩ :: r) e H Q :=
  WpO.cons (by simp only [O.run, O.want, h]) hr
theorem WpO.call {Q : Env → Heap → Prop} {d : Option Nat} {f : Nat} {xs : List X} {r : List O} {vs : List Value} (h : evs e xs = some vs) (hc : Cw F f vs H fun v H1 => WpO F r (put e d v) H1 Q) : WpO F (⟨d, none, .call f xs⟩ :: r) e H Q := by
  obtain ⟨n, v, H1, h1, m, e2, H2, h2, h3⟩ := hc
  refine ⟨max n m, e2, H2, ?_, h3⟩
  unfold runOps
  simp only [O.run, O.want, I.run, h, callN_le (Nat.le_max_left n m) _ _ _ _ h1]
  exact runOps_le (callN_le (Nat.le_max_right n m)) h2
/-- One under a guard. -/
theorem WpO.guard {Q : Env → Heap → Prop} {d : Option Nat} {t : Nat} {b : Bool} {i : I} {r : List O} {p : Bool} (h : look e t = some (.bool p)) (h1 : p = b → WpO F (⟨d, none, i⟩ :: r) e H Q) (h2 : p ≠ b → WpO F r (put e d unit) H Q) : WpO F (⟨d, some (t, b), i⟩ :: r) e H Q := by
  by_cases hp : p = b
  · obtain ⟨n, e2, H2, h3, h4⟩ := h1 hp
    refine ⟨n, e2, H2, ?_, h4⟩
    rw [← h3]
    simp only [runOps, O.run, O.want, h, hp, beq_self_eq_true]
  · obtain ⟨n, e2, H2, h3, h4⟩ := h2 hp
    refine ⟨n, e2, H2, ?_, h4⟩
    rw [← h3]
    have : (p == b) = false := by simpa using hp
    simp only [runOps, O.run, O.want, h, this]
theorem Wp.ops {ops : List O} {keep : List Nat} {Q : Out → Env → Heap → Prop} (h : WpO F ops e H fun e1 H1 => Q .nrm (keepOf e1 keep) H1) : Wp F (.reg ops keep) e H Q := by
  obtain ⟨n, e1, H1, h1, h2⟩ := h
  exact ⟨n + 1, .nrm, keepOf e1 keep, H1, by simp only [exec_reg]; unfold callN at h1; rw [h1], h2⟩
def WpD (F : Nat → Option Fun) (k : Nat) (ds : List D) (s : DS) (Q : DS → Prop) : Prop := ∃ n s', runDs (callN F n) k ds s = some s' ∧ Q s'
theorem WpD.nil {k : Nat} {s : DS} {Q : DS → Prop} (h : Q s) : WpD F k [] s Q := ⟨0, s, rfl, h⟩
theorem WpD.cons {k : Nat} {d : D} {r : List D} {s s1 : DS} {Q : DS → Prop} (h : d.run noCall k s = some s1) (hr : WpD F (k + 1) r s1 Q) : WpD F k (d :: r) s Q := by
  obtain ⟨n, s2, h1, h2⟩ := hr
  exact ⟨n, s2, by unfold runDs; simp only [D.run_le (noCall_le _) h]; exact h1, h2⟩
theorem WpD.call {k : Nat} {d : Option Nat} {f : Nat} {xs : List X} {chk : List Nat} {r : List D} {s : DS} {Q : DS → Prop} {vs : List Value} (h : evs s.e xs = some vs)
    (hc : Cw F f vs (pushAll s.H s.pend) fun v H1 => chkAct s.lds H1 chk = true ∧ WpD F (k + 1) r { s with e := put s.e d v, H := H1, pend := [], hbs := (k, s.H) :: s.hbs } Q) : WpD F k (⟨⟨d, none, .call f xs⟩, chk⟩ :: r) s Q := by
  obtain ⟨n, v, H1, h1, hk, m, s2, h2, h3⟩ := hc
  refine ⟨max n m, s2, ?_, h3⟩
  unfold runDs
  simp only [D.run, O.want, I.cls, I.run, h, callN_le (Nat.le_max_left n m) _ _ _ _ h1, hk, cond_true]
  exact runDs_le (callN_le (Nat.le_max_right n m)) h2
theorem Wp.dops {ops : List D} {keep : List Nat} {Q : Out → Env → Heap → Prop} (h : WpD F 0 ops ⟨e, H, [], [], []⟩ fun s => Q .nrm (keepOf s.e keep) (pushAll s.H s.pend)) : Wp F (.dreg ops keep) e H Q := by
  obtain ⟨n, s, h1, h2⟩ := h
  exact ⟨n + 1, .nrm, keepOf s.e keep, pushAll s.H s.pend, by simp only [exec_dreg]; unfold callN at h1; rw [h1], h2⟩
end

end Go.Proofs.Ytnjmdkecpadehaa.M
