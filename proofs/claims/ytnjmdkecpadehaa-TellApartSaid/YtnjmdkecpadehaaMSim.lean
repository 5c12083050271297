/- The framework M, nineteenth text: laws by which 'simp' carries out M's operations. Conditions: none. -/
import Derived.Test.YtnjmdkecpadehaaMEv
set_option linter.all false
set_option linter.unusedSimpArgs false
namespace Go.Proofs.Ytnjmdkecpadehaa.M

def ok2 {α β : Type} (r : Option (α × β)) (Q : α → β → Prop) : Prop := match r with
  | some (a, b) => Q a b
  | none => False
theorem ok2_congr {α β : Type} {r r' : Option (α × β)} {Q : α → β → Prop} (h : r = r') : ok2 r Q = ok2 r' Q := by rw [h]
@[simp] theorem ok2_some {α β : Type} (a : α) (b : β) (Q : α → β → Prop) : ok2 (some (a, b)) Q = Q a b := rfl
def isCall : I → Bool
  | .call _ _ => true
  | .callv _ _ => true
  | _ => false
theorem I.run_noCall {i : I} (h : isCall i = false) (call : CallFn) (e : Env) (H : Heap) : i.run call e H = i.run noCall e H := by
  cases i <;> first
    | rfl
    | (simp [isCall] at h; done)
section
variable {F : Nat → Option Fun} {e : Env} {H : Heap}
theorem WpO_congr {ops ops' : List O} {e e' : Env} {H H' : Heap} {Q : Env → Heap → Prop} (h1 : ops = ops') (h2 : e = e') (h3 : H = H') : WpO F ops e H Q = WpO F ops' e' H' Q := by rw [h1, h2, h3]
theorem Wp_congr {c c' : C} {e e' : Env} {H H' : Heap} {Q : Out → Env → Heap → Prop} (h1 : c = c') (h2 : e = e') (h3 : H = H') : Wp F c e H Q = Wp F c' e' H' Q := by rw [h1, h2, h3]
theorem WpD_congr {k k' : Nat} {ds ds' : List D} {s s' : DS} {Q : DS → Prop} (h0 : k = k') (h1 : ds = ds') (h2 : s = s') : WpD F k ds s Q = WpD F k' ds' s' Q := by rw [h0, h1, h2]
theorem WpO_nil {Q : Env → Heap → Prop} : WpO F [] e H Q ↔ Q e H := ⟨fun ⟨n, e', H', h1, h2⟩ => by cases h1; exact h2, WpO.nil⟩
theorem WpO_op {Q : Env → Heap → Prop} {d : Option Nat} {i : I} {r : List O} (hi : isCall i = false) : WpO F (⟨d, none, i⟩ :: r) e H Q ↔ ok2 (i.run noCall e H) fun v H1 => WpO F r (put e d v) H1 Q := by
  constructor
  · rintro ⟨n, e', H', h1, h2⟩
    simp only [runOps, O.run, O.want] at h1
    rw [I.run_noCall hi] at h1
    cases hr : i.run noCall e H with
    | none => rw [hr] at h1; cases h1
    | some p =>
      rw [hr] at h1
      exact ⟨n, e', H', h1, h2⟩
  · intro h
    cases hr : i.run noCall e H with
    | none => rw [hr] at h; exact h.elim
    | some p =>
      rw [hr] at h
      exact WpO.op hr h
/-- Two ways, by a bool that a temp holds. -/
def onBool (v : Option Value) (A B : Prop) : Prop := match v with
  | some (.bool true) => A
  | some (.bool false) => B
  | _ => False
theorem onBool_congr {v v' : Option Value} {A B : Prop} (h : v = v') : onBool v A B = onBool v' A B := by rw [h]
@[simp] theorem onBool_true (A B : Prop) : onBool (some (.bool true)) A B = A := rfl
@[simp] theorem onBool_false (A B : Prop) : onBool (some (.bool false)) A B = B := rfl
theorem onBool_decide (c : Prop) [Decidable c] (A B : Prop) : onBool (some (.bool (decide c))) A B ↔ (c → A) ∧ (¬ c → B) := by
  by_cases h : c <;> simp [h, onBool]
theorem onBool_bool (p : Bool) (A B : Prop) : onBool (some (.bool p)) A B ↔ (p = true → A) ∧ (p = false → B) := by
  cases p <;> simp [onBool]
variable {Q : Out → Env → Heap → Prop}
theorem Wp_reg {ops : List O} {keep : List Nat} : Wp F (.reg ops keep) e H Q ↔ WpO F ops e H fun e1 H1 => Q .nrm (keepOf e1 keep) H1 := by
  refine ⟨?_, Wp.ops⟩
  rintro ⟨n, o, e', H', h1, h2⟩
  cases n with
  | zero => simp [exec] at h1
  | succ n =>
    rw [exec_reg] at h1
    split at h1 <;> cases h1
    rename_i h3
    exact ⟨n, _, _, h3, h2⟩
theorem Wp_dreg {ops : List D} {keep : List Nat} : Wp F (.dreg ops keep) e H Q ↔ WpD F 0 ops ⟨e, H, [], [], []⟩ fun s => Q .nrm (keepOf s.e keep) (pushAll s.H s.pend) := by
  refine ⟨?_, Wp.dops⟩
  rintro ⟨n, o, e', H', h1, h2⟩
  cases n with
  | zero => simp [exec] at h1
  | succ n =>
    rw [exec_dreg] at h1
    split at h1 <;> cases h1
    rename_i h3
    exact ⟨n, _, h3, h2⟩
theorem Wp_skip : Wp F .skip e H Q ↔ Q .nrm e H := ⟨fun ⟨n, o, e', H', h1, h2⟩ => by cases n with | zero => simp [exec] at h1 | succ n => cases h1; exact h2, Wp.skip⟩
theorem Wp_ret : Wp F .ret e H Q ↔ Q .ret e H := ⟨fun ⟨n, o, e', H', h1, h2⟩ => by cases n with | zero => simp [exec] at h1 | succ n => cases h1; exact h2, Wp.ret⟩
theorem Wp_exit {id : Nat} : Wp F (.exit id) e H Q ↔ Q (.ex id) e H := ⟨fun ⟨n, o, e', H', h1, h2⟩ => by cases n with | zero => simp [exec] at h1 | succ n => cases h1; exact h2, Wp.exit⟩
theorem Wp_seq {a b : C} : Wp F (.seq a b) e H Q ↔ Wp F a e H (Then (fun e H => Wp F b e H Q) Q) := by
  refine ⟨?_, Wp.seq⟩
  rintro ⟨n, o, e', H', h1, h2⟩
  cases n with
  | zero => simp [exec] at h1
  | succ n =>
    rw [exec_seq] at h1
    split at h1
    · rename_i h3
      exact ⟨n, _, _, _, h3, n, _, _, _, h1, h2⟩
    · rename_i hne
      refine ⟨n, o, e', H', h1, ?_⟩
      cases o with
      | nrm => exact (hne _ _ h1).elim
      | ex id => exact h2
      | ret => exact h2
theorem Wp_cond {x : X} {a b : C} : Wp F (.cond x a b) e H Q ↔ onBool (x.ev e) (Wp F a e H Q) (Wp F b e H Q) := by
  unfold onBool
  constructor
  · rintro ⟨n, o, e', H', h1, h2⟩
    cases n with
    | zero => simp [exec] at h1
    | succ n =>
      rw [exec_cond] at h1
      split at h1
      · rename_i hx; rw [hx]; exact ⟨n, o, e', H', h1, h2⟩
      · rename_i hx; rw [hx]; exact ⟨n, o, e', H', h1, h2⟩
      · cases h1
  · intro h
    split at h
    · rename_i hx; exact Wp.cond hx (fun _ => h) (fun e => by cases e)
    · rename_i hx; exact Wp.cond hx (fun e => by cases e) (fun _ => h)
    · exact h.elim
theorem Wp_blk {id : Nat} {c : C} : Wp F (.blk id c) e H Q ↔ Wp F c e H (InBlk id Q) := by
  refine ⟨?_, Wp.blk⟩
  rintro ⟨n, o, e', H', h1, h2⟩
  cases n with
  | zero => simp [exec] at h1
  | succ n =>
    rw [exec_blk] at h1
    split at h1
    · rename_i id' e1 H1 h3
      simp only [beq_eq, cond_eq_ite, decide_eq_true_eq] at h1
      split at h1
      · rename_i hid
        cases h1
        exact ⟨n, .ex id', _, _, h3, by simp only [InBlk, if_pos hid]; exact h2⟩
      · rename_i hid
        cases h1
        exact ⟨n, .ex id', _, _, h3, by simp only [InBlk, if_neg hid]; exact h2⟩
    · rename_i hne
      refine ⟨n, o, e', H', h1, ?_⟩
      cases o with
      | ex id' => exact (hne _ _ _ h1).elim
      | nrm => exact h2
      | ret => exact h2
/-- One round of a loop. -/
theorem Wp_loop {c : C} : Wp F (.loop c) e H Q ↔ Wp F c e H (Then (fun e H => Wp F (.loop c) e H Q) Q) := by
  refine ⟨?_, Wp.loop⟩
  rintro ⟨n, o, e', H', h1, h2⟩
  cases n with
  | zero => simp [exec] at h1
  | succ n =>
    rw [exec_loop] at h1
    split at h1
    · rename_i h3
      exact ⟨n, _, _, _, h3, n, _, _, _, h1, h2⟩
    · rename_i hne
      refine ⟨n, o, e', H', h1, ?_⟩
      cases o with
      | nrm => exact (hne _ _ h1).elim
      | ex id => exact h2
      | ret => exact h2
def isCallD (d : D) : Bool := isCall d.o.i
def ok1 {α : Type} (r : Option α) (Q : α → Prop) : Prop := match r with
  | some a => Q a
  | none => False
theorem ok1_congr {α : Type} {r r' : Option α} {Q : α → Prop} (h : r = r') : ok1 r Q = ok1 r' Q := by rw [h]
@[simp] theorem ok1_some {α : Type} (a : α) (Q : α → Prop) : ok1 (some a) Q = Q a := rfl
theorem WpD_nil {k : Nat} {s : DS} {Q : DS → Prop} : WpD F k [] s Q ↔ Q s := ⟨fun ⟨n, s', h1, h2⟩ => by cases h1; exact h2, WpD.nil⟩
theorem D.run_noCall {d : D} (h : isCallD d = false) (call : CallFn) (k : Nat) (s : DS) : d.run call k s = d.run noCall k s := by
  unfold D.run
  simp only [I.run_noCall (i := d.o.i) h call]
theorem WpD_op {k : Nat} {d : D} {r : List D} {s : DS} {Q : DS → Prop} (hi : isCallD d = false) : WpD F k (d :: r) s Q ↔ ok1 (d.run noCall k s) fun s1 => WpD F (k + 1) r s1 Q := by
  constructor
  · rintro ⟨n, s', h1, h2⟩
    simp only [runDs] at h1
    rw [D.run_noCall hi] at h1
    cases hr : d.run noCall k s with
    | none => rw [hr] at h1; cases h1
    | some p =>
      rw [hr] at h1
      exact ⟨n, s', h1, h2⟩
  · intro h
    cases hr : d.run noCall k s with
    | none => rw [hr] at h; exact h.elim
    | some p =>
      rw [hr] at h
      exact WpD.cons hr h
end
@[simp] theorem ev_t (e : Env) (n : Nat) : X.ev e (.t n) = look e n := rfl
@[simp] theorem ev_c (e : Env) (v : Value) : X.ev e (.c v) = some v := rfl
@[simp] theorem ev_f (e : Env) (n : Nat) : X.ev e (.f n) = some (.func (.func n) #[] #[]) := rfl
/-! ### Operations over values -/
def withH (H : Heap) : Option Value → Option (Value × Heap)
  | some v => some (v, H)
  | none => none
@[simp] theorem withH_some (H : Heap) (v : Value) : withH H (some v) = some (v, H) := rfl
def pickV (H : Heap) (v_c : Value) (v_a : Value) (v_b : Value) : Option (Value × Heap) := (I.pick (.c v_c) (.c v_a) (.c v_b)).run noCall [] H
def boxV (H : Heap) (n : Nat) (v_x : Value) : Option (Value × Heap) := (I.box n (.c v_x)).run noCall [] H
def loadV (H : Heap) (agg : Bool) (n : Nat) (v_a : Value) : Option (Value × Heap) := (I.load agg n (.c v_a)).run noCall [] H
def storeV (H : Heap) (n : Nat) (v_a : Value) (v_x : Value) : Option (Value × Heap) := (I.store n (.c v_a) (.c v_x)).run noCall [] H
def nilckV (H : Heap) (v_x : Value) : Option (Value × Heap) := (I.nilck (.c v_x)).run noCall [] H
def eqbV (H : Heap) (q : Bool) (v_x : Value) (v_y : Value) : Option (Value × Heap) := (I.eqb q (.c v_x) (.c v_y)).run noCall [] H
def eqsV (H : Heap) (q : Bool) (ks : List Nat) (v_x : Value) (v_y : Value) : Option (Value × Heap) := (I.eqs q ks (.c v_x) (.c v_y)).run noCall [] H
def eqpV (H : Heap) (q : Bool) (v_x : Value) (v_y : Value) : Option (Value × Heap) := (I.eqp q (.c v_x) (.c v_y)).run noCall [] H
def convV (H : Heap) (kd : IntKind) (v_x : Value) : Option (Value × Heap) := (I.conv kd (.c v_x)).run noCall [] H
def s2bV (H : Heap) (v_x : Value) : Option (Value × Heap) := (I.s2b (.c v_x)).run noCall [] H
def b2sV (H : Heap) (v_x : Value) : Option (Value × Heap) := (I.b2s (.c v_x)).run noCall [] H
def mkiV (H : Heap) (t : Nat) (v_x : Value) : Option (Value × Heap) := (I.mki t (.c v_x)).run noCall [] H
def mksV (H : Heap) (es : Nat) (z : List Value) (b : Nat) (v_y : Value) (v_c : Value) : Option (Value × Heap) := (I.mks es z b (.c v_y) (.c v_c)).run noCall [] H
def faV (H : Heap) (off : Nat) (v_a : Value) : Option (Value × Heap) := (I.fa off (.c v_a)).run noCall [] H
def fldV (H : Heap) (agg : Bool) (off : Nat) (n : Nat) (v_x : Value) : Option (Value × Heap) := (I.fld agg off n (.c v_x)).run noCall [] H
def iaV (H : Heap) (es : Nat) (v_x : Value) (v_i : Value) : Option (Value × Heap) := (I.ia es (.c v_x) (.c v_i)).run noCall [] H
def idxV (H : Heap) (v_x : Value) (v_i : Value) : Option (Value × Heap) := (I.idx (.c v_x) (.c v_i)).run noCall [] H
def extV (H : Heap) (v_x : Value) (n : Nat) : Option (Value × Heap) := (I.ext (.c v_x) n).run noCall [] H
def lenV (H : Heap) (v_x : Value) : Option (Value × Heap) := (I.len (.c v_x)).run noCall [] H
def lensV (H : Heap) (v_x : Value) : Option (Value × Heap) := (I.lens (.c v_x)).run noCall [] H
def clrV (H : Heap) (es : Nat) (z : List Value) (v_x : Value) : Option (Value × Heap) := (I.clr es z (.c v_x)).run noCall [] H
def noescV (H : Heap) (f : Nat) (v_x : Value) : Option (Value × Heap) := (I.noesc f (.c v_x)).run noCall [] H
def usdV (H : Heap) (v_x : Value) : Option (Value × Heap) := (I.usd (.c v_x)).run noCall [] H
def ap1 (f : Value → Option (Value × Heap)) : Option Value → Option (Value × Heap)
  | some v => f v
  | none => none
def ap2 (f : Value → Value → Option (Value × Heap)) : Option Value → Option Value → Option (Value × Heap)
  | some v, some u => f v u
  | _, _ => none
def ap3 (f : Value → Value → Value → Option (Value × Heap)) : Option Value → Option Value → Option Value → Option (Value × Heap)
  | some v, some u, some t => f v u t
  | _, _, _ => none
@[simp] theorem ap1_some (f : Value → Option (Value × Heap)) (v : Value) : ap1 f (some v) = f v := rfl
@[simp] theorem ap2_some (f : Value → Value → Option (Value × Heap)) (v u : Value) : ap2 f (some v) (some u) = f v u := rfl
@[simp] theorem ap3_some (f : Value → Value → Value → Option (Value × Heap)) (v u t : Value) : ap3 f (some v) (some u) (some t) = f v u t := rfl
def movW (H : Heap) (v : Value) : Option (Value × Heap) := some (v, H)
@[simp] theorem movW_eq (H : Heap) (v : Value) : movW H v = some (v, H) := rfl
def binW (H : Heap) (o : BinOp) (v u : Value) : Option (Value × Heap) := withH H (binV o v u)
@[simp] theorem binW_eq (H : Heap) (o : BinOp) (v u : Value) : binW H o v u = withH H (binV o v u) := rfl
def unW (H : Heap) (o : UnOp) (v : Value) : Option (Value × Heap) := withH H (unV o v)
@[simp] theorem unW_eq (H : Heap) (o : UnOp) (v : Value) : unW H o v = withH H (unV o v) := rfl
section
variable {F : Nat → Option Fun} {e : Env} {H : Heap}
/-- Behind an operation, the rest. -/
def goO (F : Nat → Option Fun) (d : Option Nat) (r : List O) (e : Env) (Q : Env → Heap → Prop) : Option (Value × Heap) → Prop
  | some (v, H) => WpO F r (put e d v) H Q
  | none => False
@[simp] theorem goO_some {d : Option Nat} {r : List O} {Q : Env → Heap → Prop} {v : Value} : goO F d r e Q (some (v, H)) = WpO F r (put e d v) H Q := rfl
theorem WpO_goO {Q : Env → Heap → Prop} {d : Option Nat} {i : I} {r : List O} (hi : isCall i = false) {x : Option (Value × Heap)} (hx : i.run noCall e H = x) : WpO F (⟨d, none, i⟩ :: r) e H Q ↔ goO F d r e Q x := by
  rw [WpO_op hi, hx]
  cases x <;> rfl
theorem rv_mov (e : Env) (H : Heap) (x : X) : (I.mov x).run noCall e H = ap1 (movW H) (X.ev e x) := by
  simp only [I.run]
  cases X.ev e x with
  | none => first | rfl | (simp only [ap1, ap2, ap3])
  | some v_x =>
  first | rfl | (simp only [ap1, ap2, ap3]; rfl)
theorem WpO_mov {Q : Env → Heap → Prop} {d : Option Nat} (x : X) {r : List O} : WpO F (⟨d, none, .mov x⟩ :: r) e H Q ↔ goO F d r e Q (ap1 (movW H) (X.ev e x)) := WpO_goO rfl (rv_mov e H x)
theorem rv_pick (e : Env) (H : Heap) (c a b : X) : (I.pick c a b).run noCall e H = ap3 (pickV H) (X.ev e c) (X.ev e a) (X.ev e b) := by
  simp only [I.run]
  cases X.ev e c with
  | none => first | rfl | (simp only [ap1, ap2, ap3])
  | some v_c =>
  cases X.ev e a with
  | none => first | rfl | (simp only [ap1, ap2, ap3])
  | some v_a =>
  cases X.ev e b with
  | none => first | rfl | (simp only [ap1, ap2, ap3])
  | some v_b =>
  first | rfl | (simp only [ap1, ap2, ap3]; rfl)
theorem WpO_pick {Q : Env → Heap → Prop} {d : Option Nat} (c a b : X) {r : List O} : WpO F (⟨d, none, .pick c a b⟩ :: r) e H Q ↔ goO F d r e Q (ap3 (pickV H) (X.ev e c) (X.ev e a) (X.ev e b)) := WpO_goO rfl (rv_pick e H c a b)
theorem rv_alloc (e : Env) (H : Heap) (es : Nat) (z : List Value) : (I.alloc es z).run noCall e H = some (.pointer (some ⟨H.size, 0, none⟩), H.push ⟨z, es, true, some es⟩) := by
  rfl
theorem WpO_alloc {Q : Env → Heap → Prop} {d : Option Nat} (es : Nat) (z : List Value) {r : List O} : WpO F (⟨d, none, .alloc es z⟩ :: r) e H Q ↔ goO F d r e Q (some (.pointer (some ⟨H.size, 0, none⟩), H.push ⟨z, es, true, some es⟩)) := WpO_goO rfl (rv_alloc e H es z)
theorem rv_box (e : Env) (H : Heap) (n : Nat) (x : X) : (I.box n x).run noCall e H = ap1 (boxV H n) (X.ev e x) := by
  simp only [I.run]
  cases X.ev e x with
  | none => first | rfl | (simp only [ap1, ap2, ap3])
  | some v_x =>
  first | rfl | (simp only [ap1, ap2, ap3]; rfl)
theorem WpO_box {Q : Env → Heap → Prop} {d : Option Nat} (n : Nat) (x : X) {r : List O} : WpO F (⟨d, none, .box n x⟩ :: r) e H Q ↔ goO F d r e Q (ap1 (boxV H n) (X.ev e x)) := WpO_goO rfl (rv_box e H n x)
theorem rv_load (e : Env) (H : Heap) (agg : Bool) (n : Nat) (a : X) : (I.load agg n a).run noCall e H = ap1 (loadV H agg n) (X.ev e a) := by
  simp only [I.run]
  cases X.ev e a with
  | none => first | rfl | (simp only [ap1, ap2, ap3])
  | some v_a =>
  first | rfl | (simp only [ap1, ap2, ap3]; rfl)
theorem WpO_load {Q : Env → Heap → Prop} {d : Option Nat} (agg : Bool) (n : Nat) (a : X) {r : List O} : WpO F (⟨d, none, .load agg n a⟩ :: r) e H Q ↔ goO F d r e Q (ap1 (loadV H agg n) (X.ev e a)) := WpO_goO rfl (rv_load e H agg n a)
theorem rv_store (e : Env) (H : Heap) (n : Nat) (a x : X) : (I.store n a x).run noCall e H = ap2 (storeV H n) (X.ev e a) (X.ev e x) := by
  simp only [I.run]
  cases X.ev e a with
  | none => first | rfl | (simp only [ap1, ap2, ap3])
  | some v_a =>
  cases X.ev e x with
  | none => first | rfl | (simp only [ap1, ap2, ap3])
  | some v_x =>
  first | rfl | (simp only [ap1, ap2, ap3]; rfl)
theorem WpO_store {Q : Env → Heap → Prop} {d : Option Nat} (n : Nat) (a x : X) {r : List O} : WpO F (⟨d, none, .store n a x⟩ :: r) e H Q ↔ goO F d r e Q (ap2 (storeV H n) (X.ev e a) (X.ev e x)) := WpO_goO rfl (rv_store e H n a x)
theorem rv_nilck (e : Env) (H : Heap) (x : X) : (I.nilck x).run noCall e H = ap1 (nilckV H) (X.ev e x) := by
  simp only [I.run]
  cases X.ev e x with
  | none => first | rfl | (simp only [ap1, ap2, ap3])
  | some v_x =>
  first | rfl | (simp only [ap1, ap2, ap3]; rfl)
theorem WpO_nilck {Q : Env → Heap → Prop} {d : Option Nat} (x : X) {r : List O} : WpO F (⟨d, none, .nilck x⟩ :: r) e H Q ↔ goO F d r e Q (ap1 (nilckV H) (X.ev e x)) := WpO_goO rfl (rv_nilck e H x)
theorem rv_bin (e : Env) (H : Heap) (o : BinOp) (x y : X) : (I.bin o x y).run noCall e H = ap2 (binW H o) (X.ev e x) (X.ev e y) := by
  simp only [I.run]
  cases X.ev e x with
  | none => first | rfl | (simp only [ap1, ap2, ap3])
  | some v_x =>
  cases X.ev e y with
  | none => first | rfl | (simp only [ap1, ap2, ap3])
  | some v_y =>
  first | rfl | (simp only [ap1, ap2, ap3]; rfl)
theorem WpO_bin {Q : Env → Heap → Prop} {d : Option Nat} (o : BinOp) (x y : X) {r : List O} : WpO F (⟨d, none, .bin o x y⟩ :: r) e H Q ↔ goO F d r e Q (ap2 (binW H o) (X.ev e x) (X.ev e y)) := WpO_goO rfl (rv_bin e H o x y)
theorem rv_eqb (e : Env) (H : Heap) (q : Bool) (x y : X) : (I.eqb q x y).run noCall e H = ap2 (eqbV H q) (X.ev e x) (X.ev e y) := by
  simp only [I.run]
  cases X.ev e x with
  | none => first | rfl | (simp only [ap1, ap2, ap3])
  | some v_x =>
  cases X.ev e y with
  | none => first | rfl | (simp only [ap1, ap2, ap3])
  | some v_y =>
  first | rfl | (simp only [ap1, ap2, ap3]; rfl)
theorem WpO_eqb {Q : Env → Heap → Prop} {d : Option Nat} (q : Bool) (x y : X) {r : List O} : WpO F (⟨d, none, .eqb q x y⟩ :: r) e H Q ↔ goO F d r e Q (ap2 (eqbV H q) (X.ev e x) (X.ev e y)) := WpO_goO rfl (rv_eqb e H q x y)
theorem rv_eqs (e : Env) (H : Heap) (q : Bool) (ks : List Nat) (x y : X) : (I.eqs q ks x y).run noCall e H = ap2 (eqsV H q ks) (X.ev e x) (X.ev e y) := by
  simp only [I.run]
  cases X.ev e x with
  | none => first | rfl | (simp only [ap1, ap2, ap3])
  | some v_x =>
  cases X.ev e y with
  | none => first | rfl | (simp only [ap1, ap2, ap3])
  | some v_y =>
  first | rfl | (simp only [ap1, ap2, ap3]; rfl)
theorem WpO_eqs {Q : Env → Heap → Prop} {d : Option Nat} (q : Bool) (ks : List Nat) (x y : X) {r : List O} : WpO F (⟨d, none, .eqs q ks x y⟩ :: r) e H Q ↔ goO F d r e Q (ap2 (eqsV H q ks) (X.ev e x) (X.ev e y)) := WpO_goO rfl (rv_eqs e H q ks x y)
theorem rv_eqp (e : Env) (H : Heap) (q : Bool) (x y : X) : (I.eqp q x y).run noCall e H = ap2 (eqpV H q) (X.ev e x) (X.ev e y) := by
  simp only [I.run]
  cases X.ev e x with
  | none => first | rfl | (simp only [ap1, ap2, ap3])
  | some v_x =>
  cases X.ev e y with
  | none => first | rfl | (simp only [ap1, ap2, ap3])
  | some v_y =>
  first | rfl | (simp only [ap1, ap2, ap3]; rfl)
theorem WpO_eqp {Q : Env → Heap → Prop} {d : Option Nat} (q : Bool) (x y : X) {r : List O} : WpO F (⟨d, none, .eqp q x y⟩ :: r) e H Q ↔ goO F d r e Q (ap2 (eqpV H q) (X.ev e x) (X.ev e y)) := WpO_goO rfl (rv_eqp e H q x y)
theorem rv_un (e : Env) (H : Heap) (o : UnOp) (x : X) : (I.un o x).run noCall e H = ap1 (unW H o) (X.ev e x) := by
  simp only [I.run]
  cases X.ev e x with
  | none => first | rfl | (simp only [ap1, ap2, ap3])
  | some v_x =>
  first | rfl | (simp only [ap1, ap2, ap3]; rfl)
theorem WpO_un {Q : Env → Heap → Prop} {d : Option Nat} (o : UnOp) (x : X) {r : List O} : WpO F (⟨d, none, .un o x⟩ :: r) e H Q ↔ goO F d r e Q (ap1 (unW H o) (X.ev e x)) := WpO_goO rfl (rv_un e H o x)
theorem rv_conv (e : Env) (H : Heap) (kd : IntKind) (x : X) : (I.conv kd x).run noCall e H = ap1 (convV H kd) (X.ev e x) := by
  simp only [I.run]
  cases X.ev e x with
  | none => first | rfl | (simp only [ap1, ap2, ap3])
  | some v_x =>
  first | rfl | (simp only [ap1, ap2, ap3]; rfl)
theorem WpO_conv {Q : Env → Heap → Prop} {d : Option Nat} (kd : IntKind) (x : X) {r : List O} : WpO F (⟨d, none, .conv kd x⟩ :: r) e H Q ↔ goO F d r e Q (ap1 (convV H kd) (X.ev e x)) := WpO_goO rfl (rv_conv e H kd x)
theorem rv_s2b (e : Env) (H : Heap) (x : X) : (I.s2b x).run noCall e H = ap1 (s2bV H) (X.ev e x) := by
  simp only [I.run]
  cases X.ev e x with
  | none => first | rfl | (simp only [ap1, ap2, ap3])
  | some v_x =>
  first | rfl | (simp only [ap1, ap2, ap3]; rfl)
theorem WpO_s2b {Q : Env → Heap → Prop} {d : Option Nat} (x : X) {r : List O} : WpO F (⟨d, none, .s2b x⟩ :: r) e H Q ↔ goO F d r e Q (ap1 (s2bV H) (X.ev e x)) := WpO_goO rfl (rv_s2b e H x)
theorem rv_b2s (e : Env) (H : Heap) (x : X) : (I.b2s x).run noCall e H = ap1 (b2sV H) (X.ev e x) := by
  simp only [I.run]
  cases X.ev e x with
  | none => first | rfl | (simp only [ap1, ap2, ap3])
  | some v_x =>
  first | rfl | (simp only [ap1, ap2, ap3]; rfl)
theorem WpO_b2s {Q : Env → Heap → Prop} {d : Option Nat} (x : X) {r : List O} : WpO F (⟨d, none, .b2s x⟩ :: r) e H Q ↔ goO F d r e Q (ap1 (b2sV H) (X.ev e x)) := WpO_goO rfl (rv_b2s e H x)
theorem rv_mki (e : Env) (H : Heap) (t : Nat) (x : X) : (I.mki t x).run noCall e H = ap1 (mkiV H t) (X.ev e x) := by
  simp only [I.run]
  cases X.ev e x with
  | none => first | rfl | (simp only [ap1, ap2, ap3])
  | some v_x =>
  first | rfl | (simp only [ap1, ap2, ap3]; rfl)
theorem WpO_mki {Q : Env → Heap → Prop} {d : Option Nat} (t : Nat) (x : X) {r : List O} : WpO F (⟨d, none, .mki t x⟩ :: r) e H Q ↔ goO F d r e Q (ap1 (mkiV H t) (X.ev e x)) := WpO_goO rfl (rv_mki e H t x)
theorem rv_mks (e : Env) (H : Heap) (es : Nat) (z : List Value) (b : Nat) (y c : X) : (I.mks es z b y c).run noCall e H = ap2 (mksV H es z b) (X.ev e y) (X.ev e c) := by
  simp only [I.run]
  cases X.ev e y with
  | none => first | rfl | (simp only [ap1, ap2, ap3])
  | some v_y =>
  cases X.ev e c with
  | none => first | rfl | (simp only [ap1, ap2, ap3])
  | some v_c =>
  first | rfl | (simp only [ap1, ap2, ap3]; rfl)
theorem WpO_mks {Q : Env → Heap → Prop} {d : Option Nat} (es : Nat) (z : List Value) (b : Nat) (y c : X) {r : List O} : WpO F (⟨d, none, .mks es z b y c⟩ :: r) e H Q ↔ goO F d r e Q (ap2 (mksV H es z b) (X.ev e y) (X.ev e c)) := WpO_goO rfl (rv_mks e H es z b y c)
theorem rv_fa (e : Env) (H : Heap) (off : Nat) (a : X) : (I.fa off a).run noCall e H = ap1 (faV H off) (X.ev e a) := by
  simp only [I.run]
  cases X.ev e a with
  | none => first | rfl | (simp only [ap1, ap2, ap3])
  | some v_a =>
  first | rfl | (simp only [ap1, ap2, ap3]; rfl)
theorem WpO_fa {Q : Env → Heap → Prop} {d : Option Nat} (off : Nat) (a : X) {r : List O} : WpO F (⟨d, none, .fa off a⟩ :: r) e H Q ↔ goO F d r e Q (ap1 (faV H off) (X.ev e a)) := WpO_goO rfl (rv_fa e H off a)
theorem rv_fld (e : Env) (H : Heap) (agg : Bool) (off n : Nat) (x : X) : (I.fld agg off n x).run noCall e H = ap1 (fldV H agg off n) (X.ev e x) := by
  simp only [I.run]
  cases X.ev e x with
  | none => first | rfl | (simp only [ap1, ap2, ap3])
  | some v_x =>
  first | rfl | (simp only [ap1, ap2, ap3]; rfl)
theorem WpO_fld {Q : Env → Heap → Prop} {d : Option Nat} (agg : Bool) (off n : Nat) (x : X) {r : List O} : WpO F (⟨d, none, .fld agg off n x⟩ :: r) e H Q ↔ goO F d r e Q (ap1 (fldV H agg off n) (X.ev e x)) := WpO_goO rfl (rv_fld e H agg off n x)
theorem rv_ia (e : Env) (H : Heap) (es : Nat) (x i : X) : (I.ia es x i).run noCall e H = ap2 (iaV H es) (X.ev e x) (X.ev e i) := by
  simp only [I.run]
  cases X.ev e x with
  | none => first | rfl | (simp only [ap1, ap2, ap3])
  | some v_x =>
  cases X.ev e i with
  | none => first | rfl | (simp only [ap1, ap2, ap3])
  | some v_i =>
  first | rfl | (simp only [ap1, ap2, ap3]; rfl)
theorem WpO_ia {Q : Env → Heap → Prop} {d : Option Nat} (es : Nat) (x i : X) {r : List O} : WpO F (⟨d, none, .ia es x i⟩ :: r) e H Q ↔ goO F d r e Q (ap2 (iaV H es) (X.ev e x) (X.ev e i)) := WpO_goO rfl (rv_ia e H es x i)
theorem rv_idx (e : Env) (H : Heap) (x i : X) : (I.idx x i).run noCall e H = ap2 (idxV H) (X.ev e x) (X.ev e i) := by
  simp only [I.run]
  cases X.ev e x with
  | none => first | rfl | (simp only [ap1, ap2, ap3])
  | some v_x =>
  cases X.ev e i with
  | none => first | rfl | (simp only [ap1, ap2, ap3])
  | some v_i =>
  first | rfl | (simp only [ap1, ap2, ap3]; rfl)
theorem WpO_idx {Q : Env → Heap → Prop} {d : Option Nat} (x i : X) {r : List O} : WpO F (⟨d, none, .idx x i⟩ :: r) e H Q ↔ goO F d r e Q (ap2 (idxV H) (X.ev e x) (X.ev e i)) := WpO_goO rfl (rv_idx e H x i)
def extW (H : Heap) (n : Nat) : Option Value → Option (Value × Heap)
  | some v => extV H v n
  | none => none
@[simp] theorem extW_some (H : Heap) (n : Nat) (v : Value) : extW H n (some v) = extV H v n := rfl
theorem rv_ext (e : Env) (H : Heap) (x : X) (n : Nat) : (I.ext x n).run noCall e H = extW H n (X.ev e x) := by
  simp only [I.run]
  cases X.ev e x with
  | none => first | rfl | (simp only [ap1, ap2, ap3])
  | some v_x =>
  first | rfl | (simp only [ap1, ap2, ap3]; rfl)
theorem WpO_ext {Q : Env → Heap → Prop} {d : Option Nat} (x : X) (n : Nat) {r : List O} : WpO F (⟨d, none, .ext x n⟩ :: r) e H Q ↔ goO F d r e Q (extW H n (X.ev e x)) := WpO_goO rfl (rv_ext e H x n)
theorem rv_len (e : Env) (H : Heap) (x : X) : (I.len x).run noCall e H = ap1 (lenV H) (X.ev e x) := by
  simp only [I.run]
  cases X.ev e x with
  | none => first | rfl | (simp only [ap1, ap2, ap3])
  | some v_x =>
  first | rfl | (simp only [ap1, ap2, ap3]; rfl)
theorem WpO_len {Q : Env → Heap → Prop} {d : Option Nat} (x : X) {r : List O} : WpO F (⟨d, none, .len x⟩ :: r) e H Q ↔ goO F d r e Q (ap1 (lenV H) (X.ev e x)) := WpO_goO rfl (rv_len e H x)
theorem rv_lens (e : Env) (H : Heap) (x : X) : (I.lens x).run noCall e H = ap1 (lensV H) (X.ev e x) := by
  simp only [I.run]
  cases X.ev e x with
  | none => first | rfl | (simp only [ap1, ap2, ap3])
  | some v_x =>
  first | rfl | (simp only [ap1, ap2, ap3]; rfl)
theorem WpO_lens {Q : Env → Heap → Prop} {d : Option Nat} (x : X) {r : List O} : WpO F (⟨d, none, .lens x⟩ :: r) e H Q ↔ goO F d r e Q (ap1 (lensV H) (X.ev e x)) := WpO_goO rfl (rv_lens e H x)
theorem rv_app (e : Env) (H : Heap) (ty es b : Nat) (y x : X) : (I.app ty es b y x).run noCall e H = ap2 (appV ty es b H) (X.ev e y) (X.ev e x) := by
  simp only [I.run]
  cases X.ev e y with
  | none => first | rfl | (simp only [ap1, ap2, ap3])
  | some v_y =>
  cases X.ev e x with
  | none => first | rfl | (simp only [ap1, ap2, ap3])
  | some v_x =>
  first | rfl | (simp only [ap1, ap2, ap3]; rfl)
theorem WpO_app {Q : Env → Heap → Prop} {d : Option Nat} (ty es b : Nat) (y x : X) {r : List O} : WpO F (⟨d, none, .app ty es b y x⟩ :: r) e H Q ↔ goO F d r e Q (ap2 (appV ty es b H) (X.ev e y) (X.ev e x)) := WpO_goO rfl (rv_app e H ty es b y x)
theorem rv_clr (e : Env) (H : Heap) (es : Nat) (z : List Value) (x : X) : (I.clr es z x).run noCall e H = ap1 (clrV H es z) (X.ev e x) := by
  simp only [I.run]
  cases X.ev e x with
  | none => first | rfl | (simp only [ap1, ap2, ap3])
  | some v_x =>
  first | rfl | (simp only [ap1, ap2, ap3]; rfl)
theorem WpO_clr {Q : Env → Heap → Prop} {d : Option Nat} (es : Nat) (z : List Value) (x : X) {r : List O} : WpO F (⟨d, none, .clr es z x⟩ :: r) e H Q ↔ goO F d r e Q (ap1 (clrV H es z) (X.ev e x)) := WpO_goO rfl (rv_clr e H es z x)
theorem rv_noesc (e : Env) (H : Heap) (f : Nat) (x : X) : (I.noesc f x).run noCall e H = ap1 (noescV H f) (X.ev e x) := by
  simp only [I.run]
  cases X.ev e x with
  | none => first | rfl | (simp only [ap1, ap2, ap3])
  | some v_x =>
  first | rfl | (simp only [ap1, ap2, ap3]; rfl)
theorem WpO_noesc {Q : Env → Heap → Prop} {d : Option Nat} (f : Nat) (x : X) {r : List O} : WpO F (⟨d, none, .noesc f x⟩ :: r) e H Q ↔ goO F d r e Q (ap1 (noescV H f) (X.ev e x)) := WpO_goO rfl (rv_noesc e H f x)
theorem rv_usd (e : Env) (H : Heap) (x : X) : (I.usd x).run noCall e H = ap1 (usdV H) (X.ev e x) := by
  simp only [I.run]
  cases X.ev e x with
  | none => first | rfl | (simp only [ap1, ap2, ap3])
  | some v_x =>
  first | rfl | (simp only [ap1, ap2, ap3]; rfl)
theorem WpO_usd {Q : Env → Heap → Prop} {d : Option Nat} (x : X) {r : List O} : WpO F (⟨d, none, .usd x⟩ :: r) e H Q ↔ goO F d r e Q (ap1 (usdV H) (X.ev e x)) := WpO_goO rfl (rv_usd e H x)
def buildW (H : Heap) (z : List Value) : Option (List (Nat × Nat × Value)) → Option (Value × Heap)
  | some vs => match fillM vs z with
    | some cs => some (.agg cs.toArray, H)
    | none => none
  | none => none
@[simp] theorem buildW_some (H : Heap) (z : List Value) (vs : List (Nat × Nat × Value)) : buildW H z (some vs) = withH H ((fillM vs z).map fun cs => .agg cs.toArray) := by
  simp only [buildW]
  cases fillM vs z <;> rfl
def bslW (H : Heap) (es : Nat) (z : List Value) (m : Nat) : Option (List (Nat × Nat × Value)) → Option (Value × Heap)
  | some vs => match fillM vs (reps m z) with
    | some cs => some (.slice (some ⟨H.size, 0, none⟩) m m, H.push ⟨cs, es, true, none⟩)
    | none => none
  | none => none
def bslP (H : Heap) (es m : Nat) : Option (List Value) → Option (Value × Heap)
  | some cs => some (.slice (some ⟨H.size, 0, none⟩) m m, H.push ⟨cs, es, true, none⟩)
  | none => none
@[simp] theorem bslP_some (H : Heap) (es m : Nat) (cs : List Value) : bslP H es m (some cs) = some (.slice (some ⟨H.size, 0, none⟩) m m, H.push ⟨cs, es, true, none⟩) := rfl
@[simp] theorem bslW_some (H : Heap) (es : Nat) (z : List Value) (m : Nat) (vs : List (Nat × Nat × Value)) : bslW H es z m (some vs) = bslP H es m (fillM vs (reps m z)) := by
  simp only [bslW]
  cases fillM vs (reps m z) <;> rfl
def mkfW (H : Heap) (f : Nat) : Option (List Value) → Option (Value × Heap)
  | some vs => bif vs.all simpleV then some (.func (.func f) #[] vs.toArray, H) else none
  | none => none
@[simp] theorem mkfW_some (H : Heap) (f : Nat) (vs : List Value) : mkfW H f (some vs) = bif vs.all simpleV then some (.func (.func f) #[] vs.toArray, H) else none := rfl
def mnW (H : Heap) : Option (List Value) → Option (Value × Heap)
  | some (.int k a :: r) => withH H (minL k a r)
  | _ => none
@[simp] theorem mnW_some (H : Heap) (k : IntKind) (a : Int) (r : List Value) : mnW H (some (.int k a :: r)) = withH H (minL k a r) := rfl
def mxW (H : Heap) : Option (List Value) → Option (Value × Heap)
  | some (.int k a :: r) => withH H (maxL k a r)
  | _ => none
@[simp] theorem mxW_some (H : Heap) (k : IntKind) (a : Int) (r : List Value) : mxW H (some (.int k a :: r)) = withH H (maxL k a r) := rfl
def slsW (H : Heap) (x : Option Value) (lo hi : Option (Option Value)) : Option (Value × Heap) := match x, lo, hi with
  | some (.string s), some l, some h =>
    match bound h s.size s.size with
    | none => none
    | some h' => match bound l h' 0 with
      | none => none
      | some l' => some (.string (s.extract l' h'), H)
  | _, _, _ => none
def slcW (H : Heap) (es : Nat) (x : Option Value) (lo hi top : Option (Option Value)) : Option (Value × Heap) := match x, lo, hi, top with
  | some (.slice a n c), some l, some h, some m =>
    match bound m c c with
    | none => none
    | some m' => match bound h m' n with
      | none => none
      | some h' => match bound l h' 0 with
        | none => none
        | some l' => match a with
          | none => bif Nat.beq c 0 then some (.slice none 0 0, H) else none
          | some ⟨b, off, none⟩ => bif Nat.beq c 0 then some (.slice (some ⟨b, off, none⟩) 0 0, H) else match H.get b with
            | some row => bif Nat.beq row.es es then some (.slice (some ⟨b, off + l' * es, none⟩) (h' - l') (m' - l'), H) else none
            | none => none
          | _ => none
  | _, _, _, _ => none
theorem rv_build (e : Env) (H : Heap) (z : List Value) (ps : List (Nat × Nat × X)) : (I.build z ps).run noCall e H = buildW H z (evp e ps) := by
  simp only [I.run]
  cases (evp e ps) <;> rfl
theorem WpO_build {Q : Env → Heap → Prop} {d : Option Nat} (z : List Value) (ps : List (Nat × Nat × X)) {r : List O} : WpO F (⟨d, none, .build z ps⟩ :: r) e H Q ↔ goO F d r e Q (buildW H z (evp e ps)) := WpO_goO rfl (rv_build e H z ps)
theorem rv_bsl (e : Env) (H : Heap) (es : Nat) (z : List Value) (m : Nat) (ps : List (Nat × X)) : (I.bsl es z m ps).run noCall e H = bslW H es z m (evp e (ps.map fun p => (p.1 * es, es, p.2))) := by
  simp only [I.run]
  cases (evp e (ps.map fun p => (p.1 * es, es, p.2))) <;> rfl
theorem WpO_bsl {Q : Env → Heap → Prop} {d : Option Nat} (es : Nat) (z : List Value) (m : Nat) (ps : List (Nat × X)) {r : List O} : WpO F (⟨d, none, .bsl es z m ps⟩ :: r) e H Q ↔ goO F d r e Q (bslW H es z m (evp e (ps.map fun p => (p.1 * es, es, p.2)))) := WpO_goO rfl (rv_bsl e H es z m ps)
theorem rv_mkf (e : Env) (H : Heap) (f : Nat) (cs : List X) : (I.mkf f cs).run noCall e H = mkfW H f (evs e cs) := by
  simp only [I.run]
  cases (evs e cs) <;> rfl
theorem WpO_mkf {Q : Env → Heap → Prop} {d : Option Nat} (f : Nat) (cs : List X) {r : List O} : WpO F (⟨d, none, .mkf f cs⟩ :: r) e H Q ↔ goO F d r e Q (mkfW H f (evs e cs)) := WpO_goO rfl (rv_mkf e H f cs)
theorem rv_mn (e : Env) (H : Heap) (xs : List X) : (I.mn xs).run noCall e H = mnW H (evs e xs) := by
  simp only [I.run]
  cases evs e xs with
  | none => rfl
  | some l =>
    cases l with
    | nil => rfl
    | cons a r =>
      cases a <;> rfl
theorem WpO_mn {Q : Env → Heap → Prop} {d : Option Nat} (xs : List X) {r : List O} : WpO F (⟨d, none, .mn xs⟩ :: r) e H Q ↔ goO F d r e Q (mnW H (evs e xs)) := WpO_goO rfl (rv_mn e H xs)
theorem rv_mx (e : Env) (H : Heap) (xs : List X) : (I.mx xs).run noCall e H = mxW H (evs e xs) := by
  simp only [I.run]
  cases evs e xs with
  | none => rfl
  | some l =>
    cases l with
    | nil => rfl
    | cons a r =>
      cases a <;> rfl
theorem WpO_mx {Q : Env → Heap → Prop} {d : Option Nat} (xs : List X) {r : List O} : WpO F (⟨d, none, .mx xs⟩ :: r) e H Q ↔ goO F d r e Q (mxW H (evs e xs)) := WpO_goO rfl (rv_mx e H xs)
theorem rv_sls (e : Env) (H : Heap) (x : X) (lo hi : Option X) : (I.sls x lo hi).run noCall e H = slsW H (X.ev e x) (evo e lo) (evo e hi) := by
  rfl
theorem WpO_sls {Q : Env → Heap → Prop} {d : Option Nat} (x : X) (lo hi : Option X) {r : List O} : WpO F (⟨d, none, .sls x lo hi⟩ :: r) e H Q ↔ goO F d r e Q (slsW H (X.ev e x) (evo e lo) (evo e hi)) := WpO_goO rfl (rv_sls e H x lo hi)
theorem rv_slc (e : Env) (H : Heap) (es : Nat) (x : X) (lo hi top : Option X) : (I.slc es x lo hi top).run noCall e H = slcW H es (X.ev e x) (evo e lo) (evo e hi) (evo e top) := by
  rfl
theorem WpO_slc {Q : Env → Heap → Prop} {d : Option Nat} (es : Nat) (x : X) (lo hi top : Option X) {r : List O} : WpO F (⟨d, none, .slc es x lo hi top⟩ :: r) e H Q ↔ goO F d r e Q (slcW H es (X.ev e x) (evo e lo) (evo e hi) (evo e top)) := WpO_goO rfl (rv_slc e H es x lo hi top)
def gdT (F : Nat → Option Fun) (d : Option Nat) (i : I) (r : List O) (e : Env) (H : Heap) (Q : Env → Heap → Prop) (v : Option Value) : Prop := onBool v (WpO F (⟨d, none, i⟩ :: r) e H Q) (WpO F r (put e d unit) H Q)
def gdF (F : Nat → Option Fun) (d : Option Nat) (i : I) (r : List O) (e : Env) (H : Heap) (Q : Env → Heap → Prop) (v : Option Value) : Prop := onBool v (WpO F r (put e d unit) H Q) (WpO F (⟨d, none, i⟩ :: r) e H Q)
section
variable {d : Option Nat} {i : I} {r : List O} {Q : Env → Heap → Prop}
@[simp] theorem gdT_t : gdT F d i r e H Q (some (.bool true)) = WpO F (⟨d, none, i⟩ :: r) e H Q := rfl
@[simp] theorem gdT_f : gdT F d i r e H Q (some (.bool false)) = WpO F r (put e d unit) H Q := rfl
@[simp] theorem gdF_t : gdF F d i r e H Q (some (.bool true)) = WpO F r (put e d unit) H Q := rfl
@[simp] theorem gdF_f : gdF F d i r e H Q (some (.bool false)) = WpO F (⟨d, none, i⟩ :: r) e H Q := rfl
end
/-- A region's end. -/
def regQ (keep : List Nat) (Q : Out → Env → Heap → Prop) : Env → Heap → Prop := fun e H => Q .nrm (keepOf e keep) H
@[simp] theorem regQ_eq {keep : List Nat} {Q : Out → Env → Heap → Prop} : regQ keep Q e H = Q .nrm (keepOf e keep) H := rfl
def seqQ (F : Nat → Option Fun) (b : C) (Q : Out → Env → Heap → Prop) : Out → Env → Heap → Prop := Then (fun e H => Wp F b e H Q) Q
section
variable {Q : Out → Env → Heap → Prop}
@[simp] theorem seqQ_nrm {b : C} : seqQ F b Q .nrm e H = Wp F b e H Q := rfl
@[simp] theorem seqQ_ret {b : C} : seqQ F b Q .ret e H = Q .ret e H := rfl
@[simp] theorem seqQ_ex {b : C} {id : Nat} : seqQ F b Q (.ex id) e H = Q (.ex id) e H := rfl
def condQ (F : Nat → Option Fun) (a b : C) (e : Env) (H : Heap) (Q : Out → Env → Heap → Prop) (v : Option Value) : Prop := onBool v (Wp F a e H Q) (Wp F b e H Q)
@[simp] theorem condQ_t {a b : C} : condQ F a b e H Q (some (.bool true)) = Wp F a e H Q := rfl
@[simp] theorem condQ_f {a b : C} : condQ F a b e H Q (some (.bool false)) = Wp F b e H Q := rfl
theorem Wp_regQ {ops : List O} {keep : List Nat} : Wp F (.reg ops keep) e H Q ↔ WpO F ops e H (regQ keep Q) := Wp_reg
theorem Wp_seqQ {a b : C} : Wp F (.seq a b) e H Q ↔ Wp F a e H (seqQ F b Q) := Wp_seq
theorem Wp_condQ {x : X} {a b : C} : Wp F (.cond x a b) e H Q ↔ condQ F a b e H Q (x.ev e) := Wp_cond
/-- One round of a loop. -/
theorem Wp_loopQ {c : C} : Wp F (.loop c) e H Q ↔ Wp F c e H (seqQ F (.loop c) Q) := Wp_loop
end
end
attribute [simp] Wp_skip Wp_ret Wp_exit Wp_blk WpO_nil Wp_regQ Wp_seqQ Wp_condQ
attribute [simp] WpO_mov WpO_pick WpO_alloc WpO_box WpO_load WpO_store WpO_nilck WpO_bin WpO_eqb WpO_eqs WpO_eqp WpO_un WpO_conv WpO_s2b WpO_b2s WpO_mki WpO_mks WpO_fa WpO_fld WpO_ia WpO_idx WpO_ext WpO_len WpO_lens WpO_app WpO_clr WpO_noesc WpO_usd WpO_build WpO_bsl WpO_mkf WpO_mn WpO_mx WpO_sls WpO_slc
/-! ### Regions that draw their order -/
section
variable {F : Nat → Option Fun} {k : Nat} {d : Option Nat} {r : List D} {e : Env} {H : Heap} {p : List Row} {l : List (Nat × (Nat × Nat × Nat) × (List Value × Nat))} {h : List (Nat × Heap)} {chk : List Nat} {Q : DS → Prop}
def goC (F : Nat → Option Fun) (k : Nat) (d : Option Nat) (r : List D) (e : Env) (H : Heap) (p : List Row) (l : List (Nat × (Nat × Nat × Nat) × (List Value × Nat))) (h : List (Nat × Heap)) (Q : DS → Prop) : Option (Value × Heap) → Prop
  | some (v, _) => WpD F (k + 1) r ⟨put e d v, H, p, l, h⟩ Q
  | none => False
@[simp] theorem goC_some {v : Value} {H1 : Heap} : goC F k d r e H p l h Q (some (v, H1)) = WpD F (k + 1) r ⟨put e d v, H, p, l, h⟩ Q := rfl
theorem WpD_goC {i : I} (hi : isCall i = false) (hc : i.cls = .calm) {x : Option (Value × Heap)} (hx : i.run noCall e H = x) : WpD F k (⟨⟨d, none, i⟩, chk⟩ :: r) ⟨e, H, p, l, h⟩ Q ↔ goC F k d r e H p l h Q x := by
  rw [WpD_op (d := ⟨⟨d, none, i⟩, chk⟩) hi]
  simp only [D.run, O.want, hc, hx]
  cases x <;> rfl
def goA (F : Nat → Option Fun) (k : Nat) (d : Option Nat) (chk : List Nat) (r : List D) (e : Env) (H : Heap) (l : List (Nat × (Nat × Nat × Nat) × (List Value × Nat))) (h : List (Nat × Heap)) (Q : DS → Prop) : Option (Value × Heap) → Prop
  | some (v, H1) => chkAct l H1 chk = true ∧ WpD F (k + 1) r ⟨put e d v, H1, [], l, (k, H) :: h⟩ Q
  | none => False
@[simp] theorem goA_some {v : Value} {H1 : Heap} : goA F k d chk r e H l h Q (some (v, H1)) = (chkAct l H1 chk = true ∧ WpD F (k + 1) r ⟨put e d v, H1, [], l, (k, H) :: h⟩ Q) := rfl
theorem WpD_goA {i : I} (hi : isCall i = false) (hc : i.cls = .act) {x : Option (Value × Heap)} (hx : i.run noCall e (pushAll H p) = x) : WpD F k (⟨⟨d, none, i⟩, chk⟩ :: r) ⟨e, H, p, l, h⟩ Q ↔ goA F k d chk r e H l h Q x := by
  rw [WpD_op (d := ⟨⟨d, none, i⟩, chk⟩) hi]
  simp only [D.run, O.want, hc, hx]
  cases x with
  | none => rfl
  | some y =>
    simp only [goA, cond_eq_ite]
    split
    · rename_i hk; simp only [ok1, hk, true_and]
    · rename_i hk; simp only [ok1, hk, false_and, Bool.false_eq_true]
@[simp] theorem chkAct_nil (H : Heap) : chkAct l H [] = true := rfl
@[simp] theorem chkLd_nil (q : Nat × Nat × Nat) (ce : List Value × Nat) : chkLd h q ce [] = true := rfl
@[simp] theorem pushAll_nil (H : Heap) : pushAll H [] = H := rfl
@[simp] theorem pushAll_cons (H : Heap) (a : Row) (b : List Row) : pushAll H (a :: b) = pushAll (H.push a) b := rfl
theorem WpD_alloc {es : Nat} {z : List Value} : WpD F k (⟨⟨d, none, .alloc es z⟩, chk⟩ :: r) ⟨e, H, p, l, h⟩ Q ↔ WpD F (k + 1) r ⟨put e d (.pointer (some ⟨H.size + p.length, 0, none⟩)), H, p ++ [⟨z, es, true, some es⟩], l, h⟩ Q := by
  rw [WpD_op rfl]
  rfl
/-- What was looked at. -/
def seen (H : Heap) (q : Nat × Nat × Nat) : List Value × Nat := (peekAt H q).getD ([], 0)
def goL (F : Nat → Option Fun) (k : Nat) (d : Option Nat) (chk : List Nat) (r : List D) (e : Env) (H : Heap) (p : List Row) (l : List (Nat × (Nat × Nat × Nat) × (List Value × Nat))) (h : List (Nat × Heap)) (Q : DS → Prop) (q : Nat × Nat × Nat) : Option (Value × Heap) → Prop
  | some (v, _) => chkLd h q (seen H q) chk = true ∧ WpD F (k + 1) r ⟨put e d v, H, p, (k, q, seen H q) :: l, h⟩ Q
  | none => False
@[simp] theorem goL_some {q : Nat × Nat × Nat} {v : Value} {H1 : Heap} : goL F k d chk r e H p l h Q q (some (v, H1)) = (chkLd h q (seen H q) chk = true ∧ WpD F (k + 1) r ⟨put e d v, H, p, (k, q, seen H q) :: l, h⟩ Q) := rfl
def ldD (F : Nat → Option Fun) (k : Nat) (d : Option Nat) (agg : Bool) (n : Nat) (chk : List Nat) (r : List D) (e : Env) (H : Heap) (p : List Row) (l : List (Nat × (Nat × Nat × Nat) × (List Value × Nat))) (h : List (Nat × Heap)) (Q : DS → Prop) : Option Value → Prop
  | some (.pointer (some ⟨b, off, none⟩)) => goL F k d chk r e H p l h Q (b, off, n) (loadV H agg n (.pointer (some ⟨b, off, none⟩)))
  | _ => False
@[simp] theorem ldD_some {agg : Bool} {n b off : Nat} : ldD F k d agg n chk r e H p l h Q (some (.pointer (some ⟨b, off, none⟩))) = goL F k d chk r e H p l h Q (b, off, n) (loadV H agg n (.pointer (some ⟨b, off, none⟩))) := rfl
theorem WpD_load {agg : Bool} {n : Nat} {a : X} : WpD F k (⟨⟨d, none, .load agg n a⟩, chk⟩ :: r) ⟨e, H, p, l, h⟩ Q ↔ ldD F k d agg n chk r e H p l h Q (X.ev e a) := by
  rw [WpD_op rfl]
  simp only [D.run, O.want, I.cls, rv_load]
  cases ha : X.ev e a with
  | none => rfl
  | some v =>
    simp only [ap1_some]
    cases v
    case pointer q =>
      cases q with
      | none => rfl
      | some a0 =>
        obtain ⟨b, off, sp⟩ := a0
        cases sp with
        | some _ => rfl
        | none =>
          simp only [ldD_some, I.peek, ha]
          cases hl : loadV H agg n (.pointer (some ⟨b, off, none⟩)) with
          | none => rfl
          | some y =>
            have hs : ∃ ce, peekAt H (b, off, n) = some ce := by
              simp only [loadV, I.run, ev_c] at hl
              unfold peekAt
              cases hn : H.loadN b off n with
              | none => rw [hn] at hl; cases hl
              | some cs =>
                have hn2 := hn
                unfold Heap.loadN at hn
                split at hn
                · rename_i row hrow
                  simp only [hrow, hn2]
                  exact ⟨_, rfl⟩
                · cases hn
            obtain ⟨ce, hce⟩ := hs
            simp only [hce, goL, seen, Option.getD_some, cond_eq_ite]
            split
            · rename_i hk; simp only [ok1, hk, true_and]
            · rename_i hk; simp only [ok1, hk, false_and, Bool.false_eq_true]
    all_goals rfl
def gdDT (F : Nat → Option Fun) (k : Nat) (d : Option Nat) (i : I) (chk : List Nat) (r : List D) (e : Env) (H : Heap) (p : List Row) (l : List (Nat × (Nat × Nat × Nat) × (List Value × Nat))) (h : List (Nat × Heap)) (Q : DS → Prop) (v : Option Value) : Prop :=
  onBool v (WpD F k (⟨⟨d, none, i⟩, chk⟩ :: r) ⟨e, H, p, l, h⟩ Q) (WpD F (k + 1) r ⟨put e d unit, H, p, l, h⟩ Q)
def gdDF (F : Nat → Option Fun) (k : Nat) (d : Option Nat) (i : I) (chk : List Nat) (r : List D) (e : Env) (H : Heap) (p : List Row) (l : List (Nat × (Nat × Nat × Nat) × (List Value × Nat))) (h : List (Nat × Heap)) (Q : DS → Prop) (v : Option Value) : Prop :=
  onBool v (WpD F (k + 1) r ⟨put e d unit, H, p, l, h⟩ Q) (WpD F k (⟨⟨d, none, i⟩, chk⟩ :: r) ⟨e, H, p, l, h⟩ Q)
@[simp] theorem gdDT_t {i : I} : gdDT F k d i chk r e H p l h Q (some (.bool true)) = WpD F k (⟨⟨d, none, i⟩, chk⟩ :: r) ⟨e, H, p, l, h⟩ Q := rfl
@[simp] theorem gdDT_f {i : I} : gdDT F k d i chk r e H p l h Q (some (.bool false)) = WpD F (k + 1) r ⟨put e d unit, H, p, l, h⟩ Q := rfl
@[simp] theorem gdDF_t {i : I} : gdDF F k d i chk r e H p l h Q (some (.bool true)) = WpD F (k + 1) r ⟨put e d unit, H, p, l, h⟩ Q := rfl
@[simp] theorem gdDF_f {i : I} : gdDF F k d i chk r e H p l h Q (some (.bool false)) = WpD F k (⟨⟨d, none, i⟩, chk⟩ :: r) ⟨e, H, p, l, h⟩ Q := rfl
theorem WpD_skip {d0 : D} {s : DS} (hw : d0.o.want s.e = some false) : WpD F k (d0 :: r) s Q ↔ WpD F (k + 1) r { s with e := put s.e d0.o.d unit } Q := by
  constructor
  · rintro ⟨n, s', h1, h2⟩
    simp only [runDs, D.run, hw] at h1
    exact ⟨n, s', h1, h2⟩
  · rintro ⟨n, s', h1, h2⟩
    exact ⟨n, s', by simp only [runDs, D.run, hw]; exact h1, h2⟩
theorem WpD_want {g : Option (Nat × Bool)} {i : I} {s : DS} (hw : O.want s.e ⟨d, g, i⟩ = some true) : WpD F k (⟨⟨d, g, i⟩, chk⟩ :: r) s Q ↔ WpD F k (⟨⟨d, none, i⟩, chk⟩ :: r) s Q := by
  have e1 : ∀ call, D.run call k s ⟨⟨d, g, i⟩, chk⟩ = D.run call k s ⟨⟨d, none, i⟩, chk⟩ := fun call => by
    have : O.want s.e ⟨d, none, i⟩ = some true := rfl
    simp only [D.run, hw, this]
  constructor
  · rintro ⟨n, s', h1, h2⟩
    exact ⟨n, s', by unfold runDs at h1 ⊢; rw [← e1]; exact h1, h2⟩
  · rintro ⟨n, s', h1, h2⟩
    exact ⟨n, s', by unfold runDs at h1 ⊢; rw [e1]; exact h1, h2⟩
/-- A region's end. -/
def regD (keep : List Nat) (Q : Out → Env → Heap → Prop) : DS → Prop := fun s => Q .nrm (keepOf s.e keep) (pushAll s.H s.pend)
@[simp] theorem regD_eq {keep : List Nat} {Q : Out → Env → Heap → Prop} : regD keep Q ⟨e, H, p, l, h⟩ = Q .nrm (keepOf e keep) (pushAll H p) := rfl
theorem Wp_regD {ops : List D} {keep : List Nat} {Q : Out → Env → Heap → Prop} : Wp F (.dreg ops keep) e H Q ↔ WpD F 0 ops ⟨e, H, [], [], []⟩ (regD keep Q) := Wp_dreg
theorem WpD_mov (x : X) : WpD F k (⟨⟨d, none, .mov x⟩, chk⟩ :: r) ⟨e, H, p, l, h⟩ Q ↔ goC F k d r e H p l h Q (ap1 (movW H) (X.ev e x)) := WpD_goC rfl rfl (rv_mov e H x)
theorem WpD_pick (c a b : X) : WpD F k (⟨⟨d, none, .pick c a b⟩, chk⟩ :: r) ⟨e, H, p, l, h⟩ Q ↔ goC F k d r e H p l h Q (ap3 (pickV H) (X.ev e c) (X.ev e a) (X.ev e b)) := WpD_goC rfl rfl (rv_pick e H c a b)
theorem WpD_box (n : Nat) (x : X) : WpD F k (⟨⟨d, none, .box n x⟩, chk⟩ :: r) ⟨e, H, p, l, h⟩ Q ↔ goA F k d chk r e H l h Q (ap1 (boxV (pushAll H p) n) (X.ev e x)) := WpD_goA rfl rfl (rv_box e (pushAll H p) n x)
theorem WpD_store (n : Nat) (a x : X) : WpD F k (⟨⟨d, none, .store n a x⟩, chk⟩ :: r) ⟨e, H, p, l, h⟩ Q ↔ goA F k d chk r e H l h Q (ap2 (storeV (pushAll H p) n) (X.ev e a) (X.ev e x)) := WpD_goA rfl rfl (rv_store e (pushAll H p) n a x)
theorem WpD_nilck (x : X) : WpD F k (⟨⟨d, none, .nilck x⟩, chk⟩ :: r) ⟨e, H, p, l, h⟩ Q ↔ goC F k d r e H p l h Q (ap1 (nilckV H) (X.ev e x)) := WpD_goC rfl rfl (rv_nilck e H x)
theorem WpD_bin (o : BinOp) (x y : X) : WpD F k (⟨⟨d, none, .bin o x y⟩, chk⟩ :: r) ⟨e, H, p, l, h⟩ Q ↔ goC F k d r e H p l h Q (ap2 (binW H o) (X.ev e x) (X.ev e y)) := WpD_goC rfl rfl (rv_bin e H o x y)
theorem WpD_eqb (q : Bool) (x y : X) : WpD F k (⟨⟨d, none, .eqb q x y⟩, chk⟩ :: r) ⟨e, H, p, l, h⟩ Q ↔ goC F k d r e H p l h Q (ap2 (eqbV H q) (X.ev e x) (X.ev e y)) := WpD_goC rfl rfl (rv_eqb e H q x y)
theorem WpD_eqs (q : Bool) (ks : List Nat) (x y : X) : WpD F k (⟨⟨d, none, .eqs q ks x y⟩, chk⟩ :: r) ⟨e, H, p, l, h⟩ Q ↔ goC F k d r e H p l h Q (ap2 (eqsV H q ks) (X.ev e x) (X.ev e y)) := WpD_goC rfl rfl (rv_eqs e H q ks x y)
theorem WpD_eqp (q : Bool) (x y : X) : WpD F k (⟨⟨d, none, .eqp q x y⟩, chk⟩ :: r) ⟨e, H, p, l, h⟩ Q ↔ goC F k d r e H p l h Q (ap2 (eqpV H q) (X.ev e x) (X.ev e y)) := WpD_goC rfl rfl (rv_eqp e H q x y)
theorem WpD_un (o : UnOp) (x : X) : WpD F k (⟨⟨d, none, .un o x⟩, chk⟩ :: r) ⟨e, H, p, l, h⟩ Q ↔ goC F k d r e H p l h Q (ap1 (unW H o) (X.ev e x)) := WpD_goC rfl rfl (rv_un e H o x)
theorem WpD_conv (kd : IntKind) (x : X) : WpD F k (⟨⟨d, none, .conv kd x⟩, chk⟩ :: r) ⟨e, H, p, l, h⟩ Q ↔ goC F k d r e H p l h Q (ap1 (convV H kd) (X.ev e x)) := WpD_goC rfl rfl (rv_conv e H kd x)
theorem WpD_s2b (x : X) : WpD F k (⟨⟨d, none, .s2b x⟩, chk⟩ :: r) ⟨e, H, p, l, h⟩ Q ↔ goA F k d chk r e H l h Q (ap1 (s2bV (pushAll H p)) (X.ev e x)) := WpD_goA rfl rfl (rv_s2b e (pushAll H p) x)
theorem WpD_b2s (x : X) : WpD F k (⟨⟨d, none, .b2s x⟩, chk⟩ :: r) ⟨e, H, p, l, h⟩ Q ↔ goA F k d chk r e H l h Q (ap1 (b2sV (pushAll H p)) (X.ev e x)) := WpD_goA rfl rfl (rv_b2s e (pushAll H p) x)
theorem WpD_mki (t : Nat) (x : X) : WpD F k (⟨⟨d, none, .mki t x⟩, chk⟩ :: r) ⟨e, H, p, l, h⟩ Q ↔ goC F k d r e H p l h Q (ap1 (mkiV H t) (X.ev e x)) := WpD_goC rfl rfl (rv_mki e H t x)
theorem WpD_mks (es : Nat) (z : List Value) (b : Nat) (y c : X) : WpD F k (⟨⟨d, none, .mks es z b y c⟩, chk⟩ :: r) ⟨e, H, p, l, h⟩ Q ↔ goA F k d chk r e H l h Q (ap2 (mksV (pushAll H p) es z b) (X.ev e y) (X.ev e c)) := WpD_goA rfl rfl (rv_mks e (pushAll H p) es z b y c)
theorem WpD_fa (off : Nat) (a : X) : WpD F k (⟨⟨d, none, .fa off a⟩, chk⟩ :: r) ⟨e, H, p, l, h⟩ Q ↔ goC F k d r e H p l h Q (ap1 (faV H off) (X.ev e a)) := WpD_goC rfl rfl (rv_fa e H off a)
theorem WpD_fld (agg : Bool) (off n : Nat) (x : X) : WpD F k (⟨⟨d, none, .fld agg off n x⟩, chk⟩ :: r) ⟨e, H, p, l, h⟩ Q ↔ goC F k d r e H p l h Q (ap1 (fldV H agg off n) (X.ev e x)) := WpD_goC rfl rfl (rv_fld e H agg off n x)
theorem WpD_ia (es : Nat) (x i : X) : WpD F k (⟨⟨d, none, .ia es x i⟩, chk⟩ :: r) ⟨e, H, p, l, h⟩ Q ↔ goC F k d r e H p l h Q (ap2 (iaV H es) (X.ev e x) (X.ev e i)) := WpD_goC rfl rfl (rv_ia e H es x i)
theorem WpD_idx (x i : X) : WpD F k (⟨⟨d, none, .idx x i⟩, chk⟩ :: r) ⟨e, H, p, l, h⟩ Q ↔ goC F k d r e H p l h Q (ap2 (idxV H) (X.ev e x) (X.ev e i)) := WpD_goC rfl rfl (rv_idx e H x i)
theorem WpD_ext (x : X) (n : Nat) : WpD F k (⟨⟨d, none, .ext x n⟩, chk⟩ :: r) ⟨e, H, p, l, h⟩ Q ↔ goC F k d r e H p l h Q (extW H n (X.ev e x)) := WpD_goC rfl rfl (rv_ext e H x n)
theorem WpD_len (x : X) : WpD F k (⟨⟨d, none, .len x⟩, chk⟩ :: r) ⟨e, H, p, l, h⟩ Q ↔ goC F k d r e H p l h Q (ap1 (lenV H) (X.ev e x)) := WpD_goC rfl rfl (rv_len e H x)
theorem WpD_lens (x : X) : WpD F k (⟨⟨d, none, .lens x⟩, chk⟩ :: r) ⟨e, H, p, l, h⟩ Q ↔ goC F k d r e H p l h Q (ap1 (lensV H) (X.ev e x)) := WpD_goC rfl rfl (rv_lens e H x)
theorem WpD_app (ty es b : Nat) (y x : X) : WpD F k (⟨⟨d, none, .app ty es b y x⟩, chk⟩ :: r) ⟨e, H, p, l, h⟩ Q ↔ goA F k d chk r e H l h Q (ap2 (appV ty es b (pushAll H p)) (X.ev e y) (X.ev e x)) := WpD_goA rfl rfl (rv_app e (pushAll H p) ty es b y x)
theorem WpD_clr (es : Nat) (z : List Value) (x : X) : WpD F k (⟨⟨d, none, .clr es z x⟩, chk⟩ :: r) ⟨e, H, p, l, h⟩ Q ↔ goA F k d chk r e H l h Q (ap1 (clrV (pushAll H p) es z) (X.ev e x)) := WpD_goA rfl rfl (rv_clr e (pushAll H p) es z x)
theorem WpD_noesc (f : Nat) (x : X) : WpD F k (⟨⟨d, none, .noesc f x⟩, chk⟩ :: r) ⟨e, H, p, l, h⟩ Q ↔ goC F k d r e H p l h Q (ap1 (noescV H f) (X.ev e x)) := WpD_goC rfl rfl (rv_noesc e H f x)
theorem WpD_usd (x : X) : WpD F k (⟨⟨d, none, .usd x⟩, chk⟩ :: r) ⟨e, H, p, l, h⟩ Q ↔ goC F k d r e H p l h Q (ap1 (usdV H) (X.ev e x)) := WpD_goC rfl rfl (rv_usd e H x)
theorem WpD_build (z : List Value) (ps : List (Nat × Nat × X)) : WpD F k (⟨⟨d, none, .build z ps⟩, chk⟩ :: r) ⟨e, H, p, l, h⟩ Q ↔ goC F k d r e H p l h Q (buildW H z (evp e ps)) := WpD_goC rfl rfl (rv_build e H z ps)
theorem WpD_bsl (es : Nat) (z : List Value) (m : Nat) (ps : List (Nat × X)) : WpD F k (⟨⟨d, none, .bsl es z m ps⟩, chk⟩ :: r) ⟨e, H, p, l, h⟩ Q ↔ goA F k d chk r e H l h Q (bslW (pushAll H p) es z m (evp e (ps.map fun p => (p.1 * es, es, p.2)))) := WpD_goA rfl rfl (rv_bsl e (pushAll H p) es z m ps)
theorem WpD_mkf (f : Nat) (cs : List X) : WpD F k (⟨⟨d, none, .mkf f cs⟩, chk⟩ :: r) ⟨e, H, p, l, h⟩ Q ↔ goC F k d r e H p l h Q (mkfW H f (evs e cs)) := WpD_goC rfl rfl (rv_mkf e H f cs)
theorem WpD_mn (xs : List X) : WpD F k (⟨⟨d, none, .mn xs⟩, chk⟩ :: r) ⟨e, H, p, l, h⟩ Q ↔ goC F k d r e H p l h Q (mnW H (evs e xs)) := WpD_goC rfl rfl (rv_mn e H xs)
theorem WpD_mx (xs : List X) : WpD F k (⟨⟨d, none, .mx xs⟩, chk⟩ :: r) ⟨e, H, p, l, h⟩ Q ↔ goC F k d r e H p l h Q (mxW H (evs e xs)) := WpD_goC rfl rfl (rv_mx e H xs)
theorem WpD_sls (x : X) (lo hi : Option X) : WpD F k (⟨⟨d, none, .sls x lo hi⟩, chk⟩ :: r) ⟨e, H, p, l, h⟩ Q ↔ goC F k d r e H p l h Q (slsW H (X.ev e x) (evo e lo) (evo e hi)) := WpD_goC rfl rfl (rv_sls e H x lo hi)
end
attribute [simp] Wp_regD WpD_nil WpD_alloc WpD_load WpD_mov WpD_pick WpD_box WpD_store WpD_nilck WpD_bin WpD_eqb WpD_eqs WpD_eqp WpD_un WpD_conv WpD_s2b WpD_b2s WpD_mki WpD_mks WpD_fa WpD_fld WpD_ia WpD_idx WpD_ext WpD_len WpD_lens WpD_app WpD_clr WpD_noesc WpD_usd WpD_build WpD_bsl WpD_mkf WpD_mn WpD_mx WpD_sls
@[simp] theorem look_cons (k : Nat) (v : Value) (r : Env) (t : Nat) : look ((k, v) :: r) t = if k = t then some v else look r t := by
  simp only [look, beq_eq, cond_eq_ite, decide_eq_true_eq]
@[simp] theorem look_nil (t : Nat) : look [] t = none := rfl
@[simp] theorem put_some (e : Env) (d : Nat) (v : Value) : put e (some d) v = (d, v) :: e := rfl
@[simp] theorem put_none (e : Env) (v : Value) : put e none v = e := rfl
@[simp] theorem keepOf_nil (e : Env) : keepOf e [] = [] := rfl
@[simp] theorem keepOf_cons (e : Env) (t : Nat) (r : List Nat) : keepOf e (t :: r) = match look e t with
    | some v => (t, v) :: keepOf e r
    | none => keepOf e r := rfl
@[simp] theorem enumFrom_nil (i : Nat) : enumFrom i [] = [] := rfl
@[simp] theorem enumFrom_cons (i : Nat) (v : Value) (r : List Value) : enumFrom i (v :: r) = (i, v) :: enumFrom (i + 1) r := rfl
section
variable {K : Env → Heap → Prop} {Q : Out → Env → Heap → Prop} {e : Env} {H : Heap}
@[simp] theorem Then_nrm : Then K Q .nrm e H = K e H := rfl
@[simp] theorem Then_ret : Then K Q .ret e H = Q .ret e H := rfl
@[simp] theorem Then_ex {id : Nat} : Then K Q (.ex id) e H = Q (.ex id) e H := rfl
@[simp] theorem InBlk_nrm {i : Nat} : InBlk i Q .nrm e H = Q .nrm e H := rfl
@[simp] theorem InBlk_ret {i : Nat} : InBlk i Q .ret e H = Q .ret e H := rfl
@[simp] theorem InBlk_same {i : Nat} : InBlk i Q (.ex i) e H = Q .nrm e H := by simp [InBlk]
theorem InBlk_ne {i j : Nat} (h : j ≠ i) : InBlk i Q (.ex j) e H = Q (.ex j) e H := by simp [InBlk, h]
@[simp] theorem InBlk_ex {i j : Nat} : InBlk i Q (.ex j) e H = if j = i then Q .nrm e H else Q (.ex j) e H := rfl
@[simp] theorem Body_nrm {res : List R} {Q : Value → Heap → Prop} : Body res Q .nrm e H ↔ ∃ rs v, resOf e H res = some rs ∧ resV rs = some v ∧ Q v H := ⟨fun h => h.2, fun h => ⟨.inl rfl, h⟩⟩
@[simp] theorem Body_ret {res : List R} {Q : Value → Heap → Prop} : Body res Q .ret e H ↔ ∃ rs v, resOf e H res = some rs ∧ resV rs = some v ∧ Q v H := ⟨fun h => h.2, fun h => ⟨.inr rfl, h⟩⟩
end
attribute [simp] resOf resV simpleV
attribute [simp] evs evo evp unV
section
variable (H : Heap)
def one (H : Heap) : Option (List Value) → Option (Value × Heap)
  | some [v] => some (v, H)
  | _ => none
@[simp] theorem one_some (v : Value) : one H (some [v]) = some (v, H) := rfl
def whole (H : Heap) : Option (List Value) → Option (Value × Heap)
  | some cs => some (.agg cs.toArray, H)
  | none => none
@[simp] theorem whole_some (cs : List Value) : whole H (some cs) = some (.agg cs.toArray, H) := rfl
def stored : Option Heap → Option (Value × Heap)
  | some H => some (unit, H)
  | none => none
@[simp] theorem stored_some (H : Heap) : stored (some H) = some (unit, H) := rfl
@[simp] theorem pickV_t (a b : Value) : pickV H (.bool true) a b = some (a, H) := rfl
@[simp] theorem pickV_f (a b : Value) : pickV H (.bool false) a b = some (b, H) := rfl
theorem pickV_p (p : Bool) (a b : Value) : pickV H (.bool p) a b = some (bif p then a else b, H) := rfl
@[simp] theorem boxV_agg (n : Nat) (cs : List Value) : boxV H n (.agg cs.toArray) = if cs.length = n then some (.pointer (some ⟨H.size, 0, none⟩), H.push ⟨cs, n, true, none⟩) else none := by
  simp only [boxV, I.run, ev_c, cellsOf, beq_eq, cond_eq_ite, decide_eq_true_eq]
@[simp] theorem loadV_f (n b off : Nat) : loadV H false n (.pointer (some ⟨b, off, none⟩)) = one H (H.loadN b off n) := by
  simp only [loadV, I.run, ev_c, cond_false]
  cases H.loadN b off n with
  | none => rfl
  | some cs => match cs with
    | [] => rfl
    | [v] => rfl
    | _ :: _ :: _ => rfl
@[simp] theorem loadV_t (n b off : Nat) : loadV H true n (.pointer (some ⟨b, off, none⟩)) = whole H (H.loadN b off n) := by
  simp only [loadV, I.run, ev_c, cond_true]
  cases H.loadN b off n <;> rfl
@[simp] theorem storeV_int (b off : Nat) (k : IntKind) (x : Int) : storeV H 1 (.pointer (some ⟨b, off, none⟩)) (.int k x) = stored (H.storeN b off [.int k x]) := by
  simp only [storeV, I.run, ev_c, cellsOf, List.length_singleton, Nat.beq_refl, cond_true]
  cases H.storeN b off _ <;> rfl
@[simp] theorem storeV_bool (b off : Nat) (x : Bool) : storeV H 1 (.pointer (some ⟨b, off, none⟩)) (.bool x) = stored (H.storeN b off [.bool x]) := by
  simp only [storeV, I.run, ev_c, cellsOf, List.length_singleton, Nat.beq_refl, cond_true]
  cases H.storeN b off _ <;> rfl
@[simp] theorem storeV_string (b off : Nat) (x : ByteArray) : storeV H 1 (.pointer (some ⟨b, off, none⟩)) (.string x) = stored (H.storeN b off [.string x]) := by
  simp only [storeV, I.run, ev_c, cellsOf, List.length_singleton, Nat.beq_refl, cond_true]
  cases H.storeN b off _ <;> rfl
@[simp] theorem storeV_pointer (b off : Nat) (x : Option Addr) : storeV H 1 (.pointer (some ⟨b, off, none⟩)) (.pointer x) = stored (H.storeN b off [.pointer x]) := by
  simp only [storeV, I.run, ev_c, cellsOf, List.length_singleton, Nat.beq_refl, cond_true]
  cases H.storeN b off _ <;> rfl
@[simp] theorem storeV_slice (b off : Nat) (x : Option Addr) (n c : Nat) : storeV H 1 (.pointer (some ⟨b, off, none⟩)) (.slice x n c) = stored (H.storeN b off [.slice x n c]) := by
  simp only [storeV, I.run, ev_c, cellsOf, List.length_singleton, Nat.beq_refl, cond_true]
  cases H.storeN b off _ <;> rfl
@[simp] theorem storeV_agg (n b off : Nat) (cs : List Value) : storeV H n (.pointer (some ⟨b, off, none⟩)) (.agg cs.toArray) = if cs.length = n then stored (H.storeN b off cs) else none := by
  simp only [storeV, I.run, ev_c, cellsOf, beq_eq, cond_eq_ite, decide_eq_true_eq]
  split
  · cases H.storeN b off _ <;> rfl
  · rfl
@[simp] theorem nilckV_some (a : Addr) : nilckV H (.pointer (some a)) = some (.pointer (some a), H) := rfl
@[simp] theorem eqbV_eq (p q : Bool) : eqbV H false (.bool p) (.bool q) = some (.bool (p == q), H) := rfl
@[simp] theorem eqbV_ne (p q : Bool) : eqbV H true (.bool p) (.bool q) = some (.bool (!(p == q)), H) := rfl
@[simp] theorem eqpV_eq (p : Option Addr) : eqpV H false (.pointer p) (.pointer none) = some (.bool p.isNone, H) := rfl
@[simp] theorem eqpV_ne (p : Option Addr) : eqpV H true (.pointer p) (.pointer none) = some (.bool (!p.isNone), H) := rfl
@[simp] theorem convV_int (k k' : IntKind) (x : Int) : convV H k (.int k' x) = some (.int k (k.wrap x), H) := rfl
@[simp] theorem mkiV_int (t : Nat) (k : IntKind) (x : Int) : mkiV H t (.int k x) = some (.iface t (.int k x), H) := rfl
@[simp] theorem faV_ptr (off b o : Nat) : faV H off (.pointer (some ⟨b, o, none⟩)) = some (.pointer (some ⟨b, o + off, none⟩), H) := rfl
@[simp] theorem iaV_slice (es b off n c : Nat) (k : IntKind) (j : Int) : iaV H es (.slice (some ⟨b, off, none⟩) n c) (.int k j) = if 0 ≤ j ∧ j < n then some (.pointer (some ⟨b, off + j.toNat * es, none⟩), H) else none := rfl
@[simp] theorem lenV_slice (a : Option Addr) (n c : Nat) : lenV H (.slice a n c) = some (.int .i64 n, H) := rfl
@[simp] theorem lensV_string (s : ByteArray) : lensV H (.string s) = some (.int .i64 s.size, H) := rfl
@[simp] theorem extV_tuple (vs : List Value) (k : Nat) : extV H (.tuple vs.toArray) k = withH H vs[k]? := by
  simp only [extV, I.run, ev_c]
  cases vs[k]? <;> rfl
@[simp] theorem idxV_string (s : ByteArray) (k : IntKind) (j : Int) : idxV H (.string s) (.int k j) = if 0 ≤ j then withH H ((s.data.toList[j.toNat]?).map fun b => .int .u8 b.toNat) else none := by
  simp only [idxV, I.run, ev_c]
  split
  · cases s.data.toList[j.toNat]? <;> rfl
  · rfl
end
section
variable (k : IntKind) (a b : Int)
@[simp] theorem binV_add : binV .add (.int k a) (.int k b) = some (.int k (k.wrap (a + b))) := by simp [binV, isShift, intOp]
@[simp] theorem binV_sub : binV .sub (.int k a) (.int k b) = some (.int k (k.wrap (a - b))) := by simp [binV, isShift, intOp]
@[simp] theorem binV_mul : binV .mul (.int k a) (.int k b) = some (.int k (k.wrap (a * b))) := by simp [binV, isShift, intOp]
@[simp] theorem binV_quo : binV .quo (.int k a) (.int k b) = if b = 0 then none else some (.int k (k.wrap (a.tdiv b))) := by simp [binV, isShift, intOp]
@[simp] theorem binV_rem : binV .rem (.int k a) (.int k b) = if b = 0 then none else some (.int k (a.tmod b)) := by simp [binV, isShift, intOp]
@[simp] theorem binV_eql : binV .eql (.int k a) (.int k b) = some (.bool (decide (a = b))) := by simp [binV, isShift, intOp, BEq.beq]
@[simp] theorem binV_neq : binV .neq (.int k a) (.int k b) = some (.bool (decide (a ≠ b))) := by simp [binV, isShift, intOp, bne, BEq.beq]
@[simp] theorem binV_lss : binV .lss (.int k a) (.int k b) = some (.bool (decide (a < b))) := by simp [binV, isShift, intOp]
@[simp] theorem binV_leq : binV .leq (.int k a) (.int k b) = some (.bool (decide (a ≤ b))) := by simp [binV, isShift, intOp]
@[simp] theorem binV_gtr : binV .gtr (.int k a) (.int k b) = some (.bool (decide (b < a))) := by simp [binV, isShift, intOp]
@[simp] theorem binV_geq : binV .geq (.int k a) (.int k b) = some (.bool (decide (b ≤ a))) := by simp [binV, isShift, intOp]
end
@[simp] theorem Heap.size_push' (H : Heap) (r : Row) : (H.push r).size = H.size + 1 := rfl
@[simp] theorem Heap.size_set' (H : Heap) (b : Nat) (r : Option Row) : (H.set b r).size = H.size := rfl
@[simp] theorem Heap.get_push_size (H : Heap) (r : Row) : (H.push r).get H.size = some r := by rw [Heap.get_push, if_pos rfl]
theorem Heap.get_push_ne (H : Heap) (r : Row) {b : Nat} (h : b ≠ H.size) : (H.push r).get b = H.get b := by rw [Heap.get_push, if_neg h]
theorem loadN_of {H : Heap} {b off n : Nat} {row : Row} (h : H.get b = some row) : H.loadN b off n = (if ((row.cells.drop off).take n).length = n then some ((row.cells.drop off).take n) else none) := by
  simp only [Heap.loadN, h, beq_eq, cond_eq_ite, decide_eq_true_eq]
@[simp] theorem loadN_push (H : Heap) (cs : List Value) (es : Nat) (own : Bool) (ty : Option Nat) (off n : Nat) : (H.push ⟨cs, es, own, ty⟩).loadN H.size off n = (if ((cs.drop off).take n).length = n then some ((cs.drop off).take n) else none) := loadN_of (Heap.get_push_size _ _)
theorem loadN_push_lt {H : Heap} {r : Row} {b off n : Nat} (h : b < H.size) : (H.push r).loadN b off n = H.loadN b off n := by
  simp only [Heap.loadN, Heap.get_push_ne H r (Nat.ne_of_lt h)]

/-! ### Slices of whole numbers -/
def ints (xs : List Int) : List Value := xs.map (Value.int .i64)
/-- A slice of whole numbers, as it is read. -/
def Ints (H : Heap) (v : Value) (xs : List Int) : Prop := (v = .slice none 0 0 ∧ xs = []) ∨ ∃ b off c, v = .slice (some ⟨b, off, none⟩) xs.length c ∧ b < H.size ∧ H.loadN b off xs.length = some (ints xs)
theorem loadN_keeps {H H' : Heap} (h : Keeps H H') {b off n : Nat} {cs : List Value} (e : H.loadN b off n = some cs) : H'.loadN b off n = some cs := by
  unfold Heap.loadN at e ⊢
  split at e
  · rename_i row hr
    rw [h.2 b row hr]
    exact e
  · cases e
theorem Ints.keeps {H H' : Heap} (h : Keeps H H') {v : Value} {xs : List Int} (k : Ints H v xs) : Ints H' v xs := by
  rcases k with k | ⟨b, off, c, h1, h2, h3⟩
  · exact .inl k
  · exact .inr ⟨b, off, c, h1, Nat.lt_of_lt_of_le h2 h.1, loadN_keeps h h3⟩
theorem loadN_part {H : Heap} {b off n : Nat} {cs : List Value} (h : H.loadN b off n = some cs) {i m : Nat} (hi : i + m ≤ n) : H.loadN b (off + i) m = some ((cs.drop i).take m) := by
  unfold Heap.loadN at h ⊢
  split at h
  · rename_i row hr
    simp only [beq_eq, cond_eq_ite, decide_eq_true_eq] at h ⊢
    split at h
    · rename_i hl
      cases h
      have : List.take m (List.drop i (List.take n (List.drop off row.cells))) = List.take m (List.drop (off + i) row.cells) := by
        rw [List.drop_take, List.take_take, List.drop_drop, Nat.min_eq_left (by omega)]
      rw [this, if_pos]
      simp at hl ⊢
      omega
    · cases h
  · cases h
theorem Ints.len {H : Heap} {v : Value} {xs : List Int} (h : Ints H v xs) : ∃ a c, v = .slice a xs.length c := by
  rcases h with ⟨rfl, rfl⟩ | ⟨b, off, c, h1, _⟩
  · exact ⟨none, 0, rfl⟩
  · exact ⟨_, c, h1⟩
theorem Ints.at_ {H : Heap} {v : Value} {xs : List Int} (h : Ints H v xs) {i : Nat} (hi : i < xs.length) : ∃ b off c, v = .slice (some ⟨b, off, none⟩) xs.length c ∧ H.loadN b (off + i) 1 = some [.int .i64 xs[i]] := by
  rcases h with ⟨rfl, rfl⟩ | ⟨b, off, c, h1, h2, h3⟩
  · simp at hi
  · refine ⟨b, off, c, h1, ?_⟩
    rw [loadN_part h3 (show i + 1 ≤ xs.length by omega)]
    congr 1
    apply List.ext_getElem?
    intro j
    cases j with
    | zero => simp [ints, hi]
    | succ j => simp; omega

end Go.Proofs.Ytnjmdkecpadehaa.M
