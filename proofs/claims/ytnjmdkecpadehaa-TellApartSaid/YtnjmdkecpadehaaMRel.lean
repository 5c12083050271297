/- The framework M, second text: how M's heap stands to the machine's world; what a step keeps. Conditions: none; definitions and laws. -/
import Derived.Test.YtnjmdkecpadehaaMDefs
set_option linter.all false
set_option linter.unusedSimpArgs false
namespace Go.Proofs.Ytnjmdkecpadehaa.M

structure PB where
  r : Nat
  o : Nat
  n : Nat
  es : Nat
  len : Nat
abbrev Phi := Nat → Option PB
def Le (φ ψ : Phi) : Prop := ∀ b p, φ b = some p → ψ b = some p
theorem Le.refl (φ : Phi) : Le φ φ := fun _ _ h => h
theorem Le.trans {φ ψ χ : Phi} (h : Le φ ψ) (k : Le ψ χ) : Le φ χ := fun b p e => k b p (h b p e)

/-- One cell's value. -/
def VR0 (φ : Phi) : Value → Value → Prop
  | .int k n, v => v = .int k n
  | .bool b, v => v = .bool b
  | .string s, v => v = .string s
  | .pointer none, v => v = .pointer none
  | .pointer (some ⟨b, off, sp⟩), v => sp = none ∧ ∃ p, φ b = some p ∧ v = .pointer (some ⟨p.r, p.o + off, none⟩)
  | .slice none n c, v => n = 0 ∧ c = 0 ∧ v = .slice none 0 0
  | .slice (some ⟨b, off, sp⟩) n c, v => sp = none ∧ ∃ p c' a', φ b = some p ∧ v = .slice (some a') n c' ∧ n ≤ c ∧ c ≤ c' ∧ off + c * p.es ≤ p.len ∧ off + c' * p.es ≤ p.n ∧
      (0 < c' → a' = ⟨p.r, p.o + off, none⟩) ∧ (c' = c ∨ off + c * p.es = p.len)
  | .nilIface, v => v = .nilIface
  | .nilFunc, v => v = .nilFunc
  | .iface t (.int k n), v => v = .iface t (.int k n)
  | _, _ => False

def LR (Q : Value → Value → Prop) : List Value → List Value → Prop
  | [], [] => True
  | a :: x, b :: y => Q a b ∧ LR Q x y
  | _, _ => False

def VR1 (φ : Phi) (v v' : Value) : Prop :=
  match v with
  | .agg cs => ∃ cs' : Array Value, v' = .agg cs' ∧ LR (VR0 φ) cs.toList cs'.toList
  | v => VR0 φ v v'
def VR (φ : Phi) (v v' : Value) : Prop :=
  match v with
  | .tuple vs => ∃ vs' : Array Value, v' = .tuple vs' ∧ LR (VR1 φ) vs.toList vs'.toList
  | .func (.func f) first cap => ∃ first' cap' : Array Value, v' = .func (.func f) first' cap' ∧ LR (VR1 φ) first.toList first'.toList ∧ LR (VR1 φ) cap.toList cap'.toList
  | v => VR1 φ v v'

theorem LR.imp {Q Q' : Value → Value → Prop} (h : ∀ a b, Q a b → Q' a b) : ∀ {x y : List Value}, LR Q x y → LR Q' x y
  | [], [], _ => trivial
  | _ :: _, _ :: _, k => ⟨h _ _ k.1, LR.imp h k.2⟩
  | [], _ :: _, k => k.elim
  | _ :: _, [], k => k.elim
theorem LR.length {Q : Value → Value → Prop} : ∀ {x y : List Value}, LR Q x y → x.length = y.length
  | [], [], _ => rfl
  | _ :: _, _ :: _, k => by simp [LR.length k.2]
  | [], _ :: _, k => k.elim
  | _ :: _, [], k => k.elim
theorem LR.get {Q : Value → Value → Prop} : ∀ {x y : List Value}, LR Q x y → ∀ (i : Nat) (v : Value), x[i]? = some v → ∃ v', y[i]? = some v' ∧ Q v v'
  | [], [], _, i, v, h => by simp at h
  | a :: x, b :: y, k, 0, v, h => by simp at h; subst h; exact ⟨b, by simp, k.1⟩
  | a :: x, b :: y, k, i + 1, v, h => by simp at h; obtain ⟨v', h1, h2⟩ := LR.get k.2 i v h; exact ⟨v', by simpa using h1, h2⟩
  | [], _ :: _, k, _, _, _ => k.elim
  | _ :: _, [], k, _, _, _ => k.elim
theorem LR.get' {Q : Value → Value → Prop} {x y : List Value} (k : LR Q x y) (i : Nat) (v' : Value) (h : y[i]? = some v') : ∃ v, x[i]? = some v ∧ Q v v' := by
  have hl := k.length
  have hi : i < x.length := by
    have := (List.getElem?_eq_some_iff.1 h).1
    omega
  obtain ⟨u, h1, h2⟩ := k.get i x[i] (List.getElem?_eq_getElem hi)
  rw [h] at h1
  cases h1
  exact ⟨x[i], List.getElem?_eq_getElem hi, h2⟩
theorem LR.of_get {Q : Value → Value → Prop} : ∀ {x y : List Value}, x.length = y.length → (∀ (i : Nat) (v v' : Value), x[i]? = some v → y[i]? = some v' → Q v v') → LR Q x y
  | [], [], _, _ => trivial
  | a :: x, b :: y, hl, h => ⟨h 0 a b rfl rfl, LR.of_get (by simpa using hl) fun i v v' h1 h2 => h (i + 1) v v' (by simpa using h1) (by simpa using h2)⟩
  | [], _ :: _, hl, _ => by simp at hl
  | _ :: _, [], hl, _ => by simp at hl
theorem LR.append {Q : Value → Value → Prop} : ∀ {x y a b : List Value}, LR Q x y → LR Q a b → LR Q (x ++ a) (y ++ b)
  | [], [], _, _, _, k => k
  | _ :: _, _ :: _, _, _, h, k => ⟨h.1, LR.append h.2 k⟩
  | [], _ :: _, _, _, h, _ => h.elim
  | _ :: _, [], _, _, h, _ => h.elim
theorem LR.take {Q : Value → Value → Prop} : ∀ (n : Nat) {x y : List Value}, LR Q x y → LR Q (x.take n) (y.take n)
  | 0, _, _, _ => by simp [LR]
  | n + 1, [], [], _ => by simp [LR]
  | n + 1, _ :: _, _ :: _, h => by simp only [List.take_succ_cons]; exact ⟨h.1, LR.take n h.2⟩
  | _ + 1, [], _ :: _, h => h.elim
  | _ + 1, _ :: _, [], h => h.elim
theorem LR.drop {Q : Value → Value → Prop} : ∀ (n : Nat) {x y : List Value}, LR Q x y → LR Q (x.drop n) (y.drop n)
  | 0, _, _, h => by simpa using h
  | n + 1, [], [], _ => by simp [LR]
  | n + 1, _ :: _, _ :: _, h => by simp only [List.drop_succ_cons]; exact LR.drop n h.2
  | _ + 1, [], _ :: _, h => h.elim
  | _ + 1, _ :: _, [], h => h.elim
theorem LR.nil_left {Q : Value → Value → Prop} {y : List Value} (h : LR Q [] y) : y = [] := by
  cases y with
  | nil => rfl
  | cons => exact h.elim
theorem LR.cons_left {Q : Value → Value → Prop} {a : Value} {x y : List Value} (h : LR Q (a :: x) y) : ∃ b z, y = b :: z ∧ Q a b ∧ LR Q x z := by
  cases y with
  | nil => exact h.elim
  | cons b z => exact ⟨b, z, rfl, h.1, h.2⟩

theorem VR0.mono {φ ψ : Phi} (h : Le φ ψ) {v v' : Value} (k : VR0 φ v v') : VR0 ψ v v' := by
  unfold VR0 at k ⊢
  split at k <;> first
    | exact k
    | (obtain ⟨h1, p, hp, e⟩ := k; exact ⟨h1, p, h _ _ hp, e⟩)
    | (obtain ⟨h1, p, c', a', hp, e⟩ := k; exact ⟨h1, p, c', a', h _ _ hp, e⟩)
theorem VR1.mono {φ ψ : Phi} (h : Le φ ψ) {v v' : Value} (k : VR1 φ v v') : VR1 ψ v v' := by
  unfold VR1 at k ⊢
  split at k
  · obtain ⟨cs', e, l⟩ := k; exact ⟨cs', e, l.imp fun _ _ => VR0.mono h⟩
  · exact VR0.mono h k
theorem VR.mono {φ ψ : Phi} (h : Le φ ψ) {v v' : Value} (k : VR φ v v') : VR ψ v v' := by
  unfold VR at k ⊢
  split at k
  · obtain ⟨cs', e, l⟩ := k; exact ⟨cs', e, l.imp fun _ _ => VR1.mono h⟩
  · obtain ⟨a, b, e, l, m⟩ := k; exact ⟨a, b, e, l.imp fun _ _ => VR1.mono h, m.imp fun _ _ => VR1.mono h⟩
  · exact VR1.mono h k

theorem VR0.one {φ : Phi} {v v' : Value} (k : VR0 φ v v') : v'.oneCell' = true ∧ v.oneCell' = true := by
  unfold VR0 at k
  split at k <;> first
    | (subst k; exact ⟨rfl, rfl⟩)
    | (obtain ⟨h1, p, hp, rfl⟩ := k; exact ⟨rfl, rfl⟩)
    | (obtain ⟨h1, h2, rfl⟩ := k; exact ⟨rfl, rfl⟩)
    | (obtain ⟨h1, p, c', a', hp, rfl, _⟩ := k; exact ⟨rfl, rfl⟩)
    | exact k.elim
theorem VR0.of_VR {φ : Phi} {v v' : Value} (k : VR φ v v') (h : v.oneCell' = true) (h2 : ∀ f a b, v ≠ .func f a b) : VR0 φ v v' := by
  cases v <;> first
    | exact k
    | (simp [Value.oneCell'] at h; done)
    | exact absurd rfl (h2 _ _ _)
theorem VR.of_VR0 {φ : Phi} {v v' : Value} (k : VR0 φ v v') : VR φ v v' := by
  cases v <;> first
    | exact k
    | exact (show False from k).elim
theorem VR.of_VR1 {φ : Phi} {v v' : Value} (k : VR1 φ v v') : VR φ v v' := by
  cases v <;> first
    | exact k
    | exact (show False from k).elim
theorem VR1.of_VR0 {φ : Phi} {v v' : Value} (k : VR0 φ v v') : VR1 φ v v' := by
  cases v <;> first
    | exact k
    | exact (show False from k).elim
theorem VR.simple {φ : Phi} {v v' : Value} (k : VR φ v v') (h : simpleV v = true) : VR1 φ v v' := by
  cases v <;> first
    | exact k
    | (simp [simpleV] at h; done)
theorem LR.simple {φ : Phi} : ∀ {x y : List Value}, LR (VR φ) x y → x.all simpleV = true → LR (VR1 φ) x y
  | [], [], _, _ => trivial
  | _ :: _, _ :: _, k, h => by
    simp only [List.all_cons, Bool.and_eq_true] at h
    exact ⟨k.1.simple h.1, LR.simple k.2 h.2⟩
  | [], _ :: _, k, _ => k.elim
  | _ :: _, [], k, _ => k.elim
theorem VR.agg {φ : Phi} {cs cs' : List Value} (h : LR (VR0 φ) cs cs') : VR φ (.agg cs.toArray) (.agg cs'.toArray) := ⟨_, rfl, by simpa using h⟩
theorem VR.unit (φ : Phi) : VR φ unit unit := ⟨#[], rfl, trivial⟩
theorem VR.int {φ : Phi} {k : IntKind} {n : Int} {v : Value} (h : VR φ (.int k n) v) : v = .int k n := h
theorem VR.bool {φ : Phi} {b : Bool} {v : Value} (h : VR φ (.bool b) v) : v = .bool b := h
theorem VR.string {φ : Phi} {b : ByteArray} {v : Value} (h : VR φ (.string b) v) : v = .string b := h

/-- The cells of a value that memory holds. -/
theorem VR.cells {φ : Phi} {v v' : Value} (k : VR φ v v') {cs : List Value} (h : cellsOf v = some cs) : LR (VR0 φ) cs v'.cells.toList := by
  cases v with
  | agg c =>
    obtain ⟨c', rfl, l⟩ := k
    simp [cellsOf] at h
    subst h
    exact l
  | tuple c => simp [cellsOf] at h
  | func f a b => simp [cellsOf] at h
  | _ =>
    have h0 := VR0.of_VR k rfl (by intro f a b e; cases e)
    simp [cellsOf] at h
    subst h
    have := h0.one.1
    cases v' <;> first
      | exact ⟨h0, trivial⟩
      | (simp [Value.oneCell'] at this; done)

/-! ### The heap and the world -/
structure RowR (φ : Phi) (row : Row) (p : PB) (w : World) : Prop where
  len : p.len = row.cells.length
  es : p.es = row.es
  le : p.len ≤ p.n
  lt : p.r < w.heap.size
  cell : ∀ i v, row.cells[i]? = some v → ∃ v', w.cell? ⟨p.r, p.o + i, none⟩ = some v' ∧ VR0 φ v v'
  own : row.own = true → ∃ cur e, w.heap[p.r]? = some (.cells cur e (0, 0)) ∧ p.o + p.n ≤ cur.size ∧ ∀ t, row.ty = some t → e = t ∧ p.o = 0
structure Rel (φ : Phi) (H : Heap) (w : World) : Prop where
  row : ∀ b row, H.get b = some row → ∃ p, φ b = some p ∧ RowR φ row p w
  apart : ∀ b row p b' row' p', H.get b = some row → φ b = some p → H.get b' = some row' → φ b' = some p' → row.own = true → b ≠ b' → p.r ≠ p'.r
  top : ∀ b row, H.get b = some row → b < H.size
def OwnB (φ : Phi) (H : Heap) (k : Nat) : Prop := ∃ b row p, H.get b = some row ∧ row.own = true ∧ φ b = some p ∧ p.r = k
def ImgB (φ : Phi) (H : Heap) (k : Nat) : Prop := ∃ b row p, H.get b = some row ∧ φ b = some p ∧ p.r = k
def Fresh (φ : Phi) (H H' : Heap) : Prop := ∀ b, H.size ≤ b → b < H'.size → φ b = none
structure Step (φ : Phi) (H : Heap) (w : World) (φ' : Phi) (H' : Heap) (w' : World) : Prop where
  le : Le φ φ'
  new : ∀ b, b < H.size ∨ H'.size ≤ b → φ' b = φ b
  hsz : H.size ≤ H'.size
  os : w'.os = w.os
  tape : w'.tape = w.tape
  output : w'.output = w.output
  size : w.heap.size ≤ w'.heap.size
  keep : ∀ k, k < w.heap.size → ¬ OwnB φ H k → w'.heap[k]? = w.heap[k]? ∧ ¬ OwnB φ' H' k
  img : ∀ k, k < w.heap.size → ¬ ImgB φ H k → ¬ ImgB φ' H' k
theorem Step.refl (φ : Phi) (H : Heap) (w : World) : Step φ H w φ H w := ⟨Le.refl _, fun _ _ => rfl, Nat.le_refl _, rfl, rfl, rfl, Nat.le_refl _, fun _ _ h => ⟨rfl, h⟩, fun _ _ h => h⟩
theorem Step.trans {φ φ1 φ2 : Phi} {H H1 H2 : Heap} {w w1 w2 : World} (h : Step φ H w φ1 H1 w1) (k : Step φ1 H1 w1 φ2 H2 w2) : Step φ H w φ2 H2 w2 :=
  ⟨h.le.trans k.le, fun b hb => (k.new b (hb.imp (fun hb => Nat.lt_of_lt_of_le hb h.hsz) id)).trans
      (h.new b (hb.imp id (fun hb => Nat.le_trans k.hsz hb))),
    Nat.le_trans h.hsz k.hsz, k.os.trans h.os, k.tape.trans h.tape, k.output.trans h.output, Nat.le_trans h.size k.size,
    fun b hb hn => by
      obtain ⟨e1, n1⟩ := h.keep b hb hn
      obtain ⟨e2, n2⟩ := k.keep b (Nat.lt_of_lt_of_le hb h.size) n1
      exact ⟨e2.trans e1, n2⟩, fun b hb hn => k.img b (Nat.lt_of_lt_of_le hb h.size) (h.img b hb hn)⟩
theorem Fresh.left {φ : Phi} {H H1 H2 : Heap} (h : Fresh φ H H2) (k : H1.size ≤ H2.size) : Fresh φ H H1 := fun b h1 h2 => h b h1 (Nat.lt_of_lt_of_le h2 k)
theorem Fresh.right {φ φ1 : Phi} {H H1 H2 : Heap} {w w1 : World} (h : Fresh φ H H2) (k : Step φ H w φ1 H1 w1) : Fresh φ1 H1 H2 := fun b h1 h2 =>
  (k.new b (.inr h1)).trans (h b (Nat.le_trans k.hsz h1) h2)

/-- A world in which nothing but counts has turned. -/
theorem Rel.drew {φ : Phi} {H : Heap} {w w' : World} (h : Rel φ H w) (e : w'.heap = w.heap) : Rel φ H w' :=
  ⟨fun b row hb => by
    obtain ⟨p, hp, hr⟩ := h.row b row hb
    exact ⟨p, hp, hr.len, hr.es, hr.le, by rw [e]; exact hr.lt, fun i v hv => by obtain ⟨v', h1, h2⟩ := hr.cell i v hv; exact ⟨v', by simpa [World.cell?, e] using h1, h2⟩, fun ho => by rw [e]; exact hr.own ho⟩, h.apart, h.top⟩
theorem Step.drew {φ : Phi} {H : Heap} {w w' : World} (e : w'.heap = w.heap) (h1 : w'.os = w.os) (h2 : w'.tape = w.tape) (h3 : w'.output = w.output) : Step φ H w φ H w' :=
  ⟨Le.refl _, fun _ _ => rfl, Nat.le_refl _, h1, h2, h3, by rw [e]; exact Nat.le_refl _, fun _ _ h => ⟨by rw [e], h⟩, fun _ _ h => h⟩

theorem add_at (g o j : Nat) : (⟨g, o, none⟩ : Addr).add j = ⟨g, o + j, none⟩ := by unfold Addr.add; split <;> simp_all

/-- What n cells are read as. -/
theorem Rel.loadN {φ : Phi} {H : Heap} {w : World} (h : Rel φ H w) {b off n : Nat} {cs : List Value} (hl : H.loadN b off n = some cs) :
    ∃ p, φ b = some p ∧ cs.length = n ∧ ∃ cs' : List Value, LR (VR0 φ) cs cs' ∧ ∀ j u, cs'[j]? = some u → w.cell? ((⟨p.r, p.o + off, none⟩ : Addr).add j) = some u := by
  unfold Heap.loadN at hl
  split at hl
  · rename_i row hr
    obtain ⟨p, hp, rr⟩ := h.row b row hr
    simp only [beq_eq] at hl
    by_cases hn : ((row.cells.drop off).take n).length = n
    · simp only [hn, decide_true, cond_true, Option.some.injEq] at hl
      subst hl
      refine ⟨p, hp, hn, ((List.range n).map fun j => (w.cell? ⟨p.r, p.o + off + j, none⟩).getD unit), ?_, ?_⟩
      · refine LR.of_get (by simpa using hn) ?_
        intro i v v' h1 h2
        have hi : i < n := by have := (List.getElem?_eq_some_iff.1 h1).1; omega
        rw [List.getElem?_take_of_lt hi, List.getElem?_drop] at h1
        obtain ⟨u, hu, hv⟩ := rr.cell _ _ h1
        simp [hi] at h2
        rw [Nat.add_assoc, hu] at h2
        simp at h2
        subst h2
        exact hv
      · intro j u hu
        have hj : j < n := by have := (List.getElem?_eq_some_iff.1 hu).1; simpa using this
        simp [hj] at hu
        have hcell : row.cells[off + j]? ≠ none := by
          intro e
          have := List.getElem?_eq_none_iff.1 e
          simp at hn
          omega
        obtain ⟨v, hv⟩ := Option.ne_none_iff_exists'.1 hcell
        obtain ⟨u', hu', _⟩ := rr.cell _ _ hv
        rw [add_at, Nat.add_assoc, hu']
        rw [Nat.add_assoc, hu'] at hu
        simpa using hu
    · rw [decide_eq_false hn, cond_false] at hl; cases hl
  · cases hl

end Go.Proofs.Ytnjmdkecpadehaa.M
