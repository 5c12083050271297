/- The framework N, first text: values that bear data, a small heap of rows of one's own, and how both stand to M's. Conditions: none; definitions and laws. -/
import Derived.Test.YtnjmdkecpadehaaMRd
set_option linter.all false
set_option linter.unusedSimpArgs false
namespace Go.Proofs.Ytnjmdkecpadehaa.M

/-! ### Values -/
inductive NV where
  | v (x : Value)
  | nils
  | emp (w : Nat)
  | fsl (s : Sh) (l : List (Dat s))
  | sl (r i n c : Nat)
  | ptr (r i o : Nat)
  | fptr (s : Sh) (l : List (Dat s)) (i o : Nat)
  | agg (cs : List NV)
  | tup (vs : List NV)
  | fn (f : Nat) (caps : List NV)
/-- The cells of what is told. -/
def cellsN : (s : Sh) → Dat s → List NV
  | .int k, n => [.v (.int k n)]
  | .bool, b => [.v (.bool b)]
  | .str, s => [.v (.string s)]
  | .sl s, l => [.fsl s l]
  | .unit, _ => []
  | .pair a b, (x, y) => cellsN a x ++ cellsN b y
theorem cellsN_length : ∀ (s : Sh) (x : Dat s), (cellsN s x).length = s.width
  | .int _, _ => rfl
  | .bool, _ => rfl
  | .str, _ => rfl
  | .sl _, _ => rfl
  | .unit, _ => rfl
  | .pair a b, (x, y) => by simp only [cellsN, List.length_append, cellsN_length a x, cellsN_length b y]; rfl
/-- A plain value: no address in it. -/
def flatV : Value → Bool
  | .int _ _ => true
  | .bool _ => true
  | .string _ => true
  | .nilIface => true
  | .nilFunc => true
  | .pointer none => true
  | .iface _ (.int _ _) => true
  | _ => false

/-! ### Rows -/
structure NRow where
  els : List (List NV)
  w : Nat
  es : Nat
  own : Bool
  ty : Option Nat
structure NHeap where
  nx : Nat
  rows : List (Nat × NRow)
def getR : List (Nat × NRow) → Nat → Option NRow
  | [], _ => none
  | (k, row) :: l, r => if k = r then some row else getR l r
def setR : List (Nat × NRow) → Nat → NRow → List (Nat × NRow)
  | [], _, _ => []
  | (k, row) :: l, r, x => if k = r then (k, x) :: l else (k, row) :: setR l r x
def delR : List (Nat × NRow) → Nat → List (Nat × NRow)
  | [], _ => []
  | (k, row) :: l, r => if k = r then delR l r else (k, row) :: delR l r
def NHeap.get (h : NHeap) (r : Nat) : Option NRow := getR h.rows r
def NHeap.set (h : NHeap) (r : Nat) (x : NRow) : NHeap := ⟨h.nx, setR h.rows r x⟩
def NHeap.del (h : NHeap) (r : Nat) : NHeap := ⟨h.nx, delR h.rows r⟩
def NHeap.push (h : NHeap) (x : NRow) : NHeap := ⟨h.nx + 1, (h.nx, x) :: h.rows⟩
theorem getR_set (x : NRow) (r r' : Nat) : ∀ l, getR (setR l r x) r' = if r' = r then (getR l r).map (fun _ => x) else getR l r'
  | [] => by simp [setR, getR]
  | (k, row) :: l => by
    simp only [setR]
    by_cases hk : k = r
    · subst hk
      simp only [if_pos, getR]
      by_cases h : r' = k
      · subst h; simp
      · simp [h, Ne.symm h]
    · simp only [if_neg hk, getR]
      rw [getR_set x r r' l]
      by_cases h : r' = r
      · subst h; simp [hk]
      · simp only [if_neg h]
theorem getR_del (r r' : Nat) : ∀ l, getR (delR l r) r' = if r' = r then none else getR l r'
  | [] => by simp [delR, getR]
  | (k, row) :: l => by
    simp only [delR]
    by_cases hk : k = r
    · subst hk
      simp only [if_pos]
      rw [getR_del k r' l]
      by_cases h : r' = k
      · subst h; simp
      · simp only [if_neg h, getR]
        rw [if_neg (fun e => h e.symm)]
    · simp only [if_neg hk, getR]
      rw [getR_del r r' l]
      by_cases h : r' = r
      · subst h; simp [hk]
      · simp only [if_neg h]
theorem NHeap.get_set (h : NHeap) (r : Nat) (x : NRow) (r' : Nat) : (h.set r x).get r' = if r' = r then (h.get r).map (fun _ => x) else h.get r' := getR_set x r r' h.rows
theorem NHeap.get_del (h : NHeap) (r r' : Nat) : (h.del r).get r' = if r' = r then none else h.get r' := getR_del r r' h.rows
theorem NHeap.get_push (h : NHeap) (x : NRow) (r : Nat) : (h.push x).get r = if r = h.nx then some x else h.get r := by
  simp only [NHeap.push, NHeap.get, getR]
  by_cases e : h.nx = r
  · subst e; simp
  · rw [if_neg e, if_neg (fun e2 => e e2.symm)]

/-! ### How values stand to M's -/
abbrev View := Nat → Option Row
def View.le (V W : View) : Prop := ∀ b row, V b = some row → W b = some row
theorem View.le_refl (V : View) : V.le V := fun _ _ h => h
theorem View.le.trans {V W X : View} (h : V.le W) (k : W.le X) : V.le X := fun b row e => k b row (h b row e)
inductive Loc where
  | nil
  | at (b w : Nat)
abbrev NPhi := Nat → Option Loc
def NPhi.le (φ φ' : NPhi) : Prop := ∀ r l, φ r = some l → φ' r = some l
theorem NPhi.le_refl (φ : NPhi) : φ.le φ := fun _ _ h => h
theorem NPhi.le.trans {φ φ' φ'' : NPhi} (h : φ.le φ') (k : φ'.le φ'') : φ.le φ'' := fun r l e => k r l (h r l e)
def ArrF (V : View) (v : Value) (n w : Nat) (cells : List Value) : Prop :=
  (n = 0 ∧ cells = [] ∧ ∃ a, v = .slice a 0 0 ∧ ∀ x, a = some x → x.spot = none) ∨
  ∃ b off c row, v = .slice (some ⟨b, off, none⟩) n c ∧ V b = some row ∧ row.es = w ∧ n ≤ c ∧ off + n * w ≤ row.cells.length ∧ cells = (row.cells.drop off).take (n * w)
/-- What cells read as. -/
def RdF (V : View) : (s : Sh) → Dat s → List Value → Prop
  | .int k, n, cs => cs = [.int k n]
  | .bool, b, cs => cs = [.bool b]
  | .str, s, cs => cs = [.string s]
  | .sl s, l, cs => ∃ v cells, cs = [v] ∧ ArrF V v (List.length l) s.width cells ∧ DenL (RdF V s) l cells
  | .unit, _, cs => cs = []
  | .pair a b, (x, y), cs => ∃ c1 c2, cs = c1 ++ c2 ∧ RdF V a x c1 ∧ RdF V b y c2
theorem ArrF.mono {V W : View} (h : V.le W) {v : Value} {n w : Nat} {cells : List Value} (k : ArrF V v n w cells) : ArrF W v n w cells := by
  rcases k with k | ⟨b, off, c, row, h1, h2, h3⟩
  · exact .inl k
  · exact .inr ⟨b, off, c, row, h1, h b row h2, h3⟩
theorem RdF.mono {V W : View} (h : V.le W) : ∀ {s : Sh} {x : Dat s} {cs : List Value}, RdF V s x cs → RdF W s x cs
  | .int _, _, _, k => k
  | .bool, _, _, k => k
  | .str, _, _, k => k
  | .unit, _, _, k => k
  | .pair a b, (x, y), cs, ⟨c1, c2, e, k1, k2⟩ => ⟨c1, c2, e, RdF.mono h k1, RdF.mono h k2⟩
  | .sl s, l, cs, ⟨v, cells, e, k1, k2⟩ => ⟨v, cells, e, k1.mono h, k2.imp fun _ _ => RdF.mono h⟩
theorem RdF.length {V : View} : ∀ {s : Sh} {x : Dat s} {cs : List Value}, RdF V s x cs → cs.length = s.width
  | .int _, _, _, k => by rw [show _ = _ from k]; rfl
  | .bool, _, _, k => by rw [show _ = _ from k]; rfl
  | .str, _, _, k => by rw [show _ = _ from k]; rfl
  | .unit, _, _, k => by rw [show _ = _ from k]; rfl
  | .pair a b, (x, y), cs, ⟨c1, c2, e, k1, k2⟩ => by rw [e, List.length_append, k1.length, k2.length]; rfl
  | .sl s, l, cs, ⟨v, cells, e, _⟩ => by rw [e]; rfl
/-- One by one. -/
def L2 {α β : Type} (Q : α → β → Prop) : List α → List β → Prop
  | [], [] => True
  | a :: x, b :: y => Q a b ∧ L2 Q x y
  | _, _ => False
section
variable {α β γ : Type} {Q Q' : α → β → Prop}
theorem L2.imp (h : ∀ a b, Q a b → Q' a b) : ∀ {x : List α} {y : List β}, L2 Q x y → L2 Q' x y
  | [], [], _ => trivial
  | _ :: _, _ :: _, k => ⟨h _ _ k.1, L2.imp h k.2⟩
  | [], _ :: _, k => k.elim
  | _ :: _, [], k => k.elim
theorem L2.length : ∀ {x : List α} {y : List β}, L2 Q x y → x.length = y.length
  | [], [], _ => rfl
  | _ :: _, _ :: _, k => by simp [L2.length k.2]
  | [], _ :: _, k => k.elim
  | _ :: _, [], k => k.elim
theorem L2.append : ∀ {x x' : List α} {y y' : List β}, L2 Q x y → L2 Q x' y' → L2 Q (x ++ x') (y ++ y')
  | [], _, [], _, _, k => k
  | _ :: _, _, _ :: _, _, h, k => ⟨h.1, L2.append h.2 k⟩
  | [], _, _ :: _, _, h, _ => h.elim
  | _ :: _, _, [], _, h, _ => h.elim
theorem L2.take : ∀ {x : List α} {y : List β} (n : Nat), L2 Q x y → L2 Q (x.take n) (y.take n)
  | _, _, 0, _ => by simp [L2]
  | [], [], _ + 1, _ => trivial
  | _ :: _, _ :: _, n + 1, h => ⟨h.1, L2.take n h.2⟩
  | [], _ :: _, _, h => h.elim
  | _ :: _, [], _, h => h.elim
theorem L2.drop : ∀ {x : List α} {y : List β} (n : Nat), L2 Q x y → L2 Q (x.drop n) (y.drop n)
  | _, _, 0, h => h
  | [], [], _ + 1, _ => trivial
  | _ :: _, _ :: _, n + 1, h => L2.drop n h.2
  | [], _ :: _, _, h => h.elim
  | _ :: _, [], _, h => h.elim
theorem L2.split : ∀ {x x' : List α} {y : List β}, L2 Q (x ++ x') y → ∃ y1 y2, y = y1 ++ y2 ∧ L2 Q x y1 ∧ L2 Q x' y2
  | [], _, y, h => ⟨[], y, rfl, trivial, h⟩
  | _ :: x, _, b :: y, h => by
    obtain ⟨y1, y2, e, k1, k2⟩ := L2.split (x := x) h.2
    exact ⟨b :: y1, y2, by rw [e]; rfl, ⟨h.1, k1⟩, k2⟩
  | _ :: _, _, [], h => h.elim
theorem L2.get : ∀ {x : List α} {y : List β} {i : Nat} {a : α}, L2 Q x y → x[i]? = some a → ∃ b, y[i]? = some b ∧ Q a b
  | _ :: _, b :: _, 0, a, h, e => by simp at e; subst e; exact ⟨b, rfl, h.1⟩
  | _ :: x, _ :: y, i + 1, a, h, e => by
    obtain ⟨b, e1, e2⟩ := L2.get (i := i) h.2 (by simpa using e)
    exact ⟨b, by simpa using e1, e2⟩
  | [], [], _, _, _, e => by simp at e
  | [], _ :: _, _, _, h, _ => h.elim
  | _ :: _, [], _, _, h, _ => h.elim
theorem L2.nil_left {y : List β} (h : L2 Q [] y) : y = [] := by cases y with
  | nil => rfl
  | cons => exact h.elim
theorem L2.cons_left {a : α} {x : List α} {y : List β} (h : L2 Q (a :: x) y) : ∃ b y', y = b :: y' ∧ Q a b ∧ L2 Q x y' := by cases y with
  | nil => exact h.elim
  | cons b y => exact ⟨b, y, rfl, h.1, h.2⟩
end
def N0 (φ : NPhi) (V : View) : NV → Value → Prop
  | .v x, u => u = x ∧ flatV x = true
  | .nils, u => u = .slice none 0 0
  | .emp w, u => ∃ b off row, u = .slice (some ⟨b, off, none⟩) 0 0 ∧ V b = some row ∧ row.es = w ∧ off < row.cells.length
  | .fsl s l, u => RdF V (.sl s) l [u]
  | .sl r i n c, u => (φ r = some .nil ∧ i = 0 ∧ n = 0 ∧ c = 0 ∧ u = .slice none 0 0) ∨ ∃ b w, φ r = some (.at b w) ∧ u = .slice (some ⟨b, i * w, none⟩) n c
  | .ptr r i o, u => ∃ b w, φ r = some (.at b w) ∧ u = .pointer (some ⟨b, i * w + o, none⟩)
  | .fptr s l i o, u => i < List.length l ∧ ∃ b off cells row, V b = some row ∧ off + List.length l * s.width ≤ row.cells.length ∧ cells = (row.cells.drop off).take (List.length l * s.width) ∧ DenL (RdF V s) l cells ∧ u = .pointer (some ⟨b, off + i * s.width + o, none⟩)
  | _, _ => False
def N1 (φ : NPhi) (V : View) : NV → Value → Prop
  | .agg cs, u => ∃ a : Array Value, u = .agg a ∧ L2 (N0 φ V) cs a.toList
  | x, u => N0 φ V x u
def N2 (φ : NPhi) (V : View) : NV → Value → Prop
  | .fn f caps, u => ∃ a : Array Value, u = .func (.func f) #[] a ∧ L2 (N1 φ V) caps a.toList
  | x, u => N1 φ V x u
def N3 (φ : NPhi) (V : View) : NV → Value → Prop
  | .tup vs, u => ∃ a : Array Value, u = .tuple a ∧ L2 (N1 φ V) vs a.toList
  | x, u => N2 φ V x u
section
variable {φ φ' : NPhi} {V V' : View} (hφ : φ.le φ') (hV : V.le V')
include hφ hV
theorem N0.mono {x : NV} {u : Value} (h : N0 φ V x u) : N0 φ' V' x u := by
  cases x with
  | v x => exact h
  | nils => exact h
  | emp w => obtain ⟨b, off, row, h1, h2, h3⟩ := h; exact ⟨b, off, row, h1, hV _ _ h2, h3⟩
  | fsl s l => exact RdF.mono hV (s := .sl s) h
  | sl r i n c =>
    rcases h with ⟨h1, h2⟩ | ⟨b, w, h1, h2⟩
    · exact .inl ⟨hφ _ _ h1, h2⟩
    · exact .inr ⟨b, w, hφ _ _ h1, h2⟩
  | ptr r i o => obtain ⟨b, w, h1, h2⟩ := h; exact ⟨b, w, hφ _ _ h1, h2⟩
  | fptr s l i o => obtain ⟨h0, b, off, cells, row, h1, h2, h3, h4, h5⟩ := h; exact ⟨h0, b, off, cells, row, hV _ _ h1, h2, h3, h4.imp fun _ _ => RdF.mono hV, h5⟩
  | agg cs => exact h.elim
  | tup vs => exact h.elim
  | fn f caps => exact h.elim
theorem N1.mono {x : NV} {u : Value} (h : N1 φ V x u) : N1 φ' V' x u := by
  cases x with
  | agg cs => obtain ⟨a, h1, h2⟩ := h; exact ⟨a, h1, h2.imp fun _ _ => N0.mono hφ hV⟩
  | _ => (simp only [N1] at h ⊢; exact N0.mono hφ hV h)
theorem N2.mono {x : NV} {u : Value} (h : N2 φ V x u) : N2 φ' V' x u := by
  cases x with
  | fn f caps => obtain ⟨a, h1, h2⟩ := h; exact ⟨a, h1, h2.imp fun _ _ => N1.mono hφ hV⟩
  | _ => (simp only [N2] at h ⊢; exact N1.mono hφ hV h)
theorem N3.mono {x : NV} {u : Value} (h : N3 φ V x u) : N3 φ' V' x u := by
  cases x with
  | tup vs => obtain ⟨a, h1, h2⟩ := h; exact ⟨a, h1, h2.imp fun _ _ => N1.mono hφ hV⟩
  | _ => (simp only [N3] at h ⊢; exact N2.mono hφ hV h)
end
theorem N1.of0 {φ : NPhi} {V : View} {x : NV} {u : Value} (h : N0 φ V x u) : N1 φ V x u := by
  cases x <;> first
    | exact h
    | exact h.elim
theorem N2.of1 {φ : NPhi} {V : View} {x : NV} {u : Value} (h : N1 φ V x u) : N2 φ V x u := by
  cases x <;> first
    | exact h
    | exact h.elim
theorem N3.of2 {φ : NPhi} {V : View} {x : NV} {u : Value} (h : N2 φ V x u) : N3 φ V x u := by
  cases x <;> first
    | exact h
    | exact h.elim
theorem N3.of1 {φ : NPhi} {V : View} {x : NV} {u : Value} (h : N1 φ V x u) : N3 φ V x u := .of2 (.of1 h)
theorem N3.of0 {φ : NPhi} {V : View} {x : NV} {u : Value} (h : N0 φ V x u) : N3 φ V x u := .of1 (.of0 h)
/-- Cells that read as something stand to its cells. -/
theorem RdF.l2 {φ : NPhi} {V : View} : ∀ {s : Sh} {x : Dat s} {cs : List Value}, RdF V s x cs → L2 (N0 φ V) (cellsN s x) cs
  | .int _, _, _, k => by rw [show _ = _ from k]; exact ⟨⟨rfl, rfl⟩, trivial⟩
  | .bool, _, _, k => by rw [show _ = _ from k]; exact ⟨⟨rfl, rfl⟩, trivial⟩
  | .str, _, _, k => by rw [show _ = _ from k]; exact ⟨⟨rfl, rfl⟩, trivial⟩
  | .unit, _, _, k => by rw [show _ = _ from k]; exact trivial
  | .pair a b, (x, y), cs, ⟨c1, c2, e, k1, k2⟩ => by subst e; exact L2.append k1.l2 k2.l2
  | .sl s, l, cs, k => by
    obtain ⟨v, cells, rfl, h2⟩ := k
    exact ⟨⟨v, cells, rfl, h2⟩, trivial⟩
theorem RdF.of_l2 {φ : NPhi} {V : View} : ∀ {s : Sh} {x : Dat s} {cs : List Value}, L2 (N0 φ V) (cellsN s x) cs → RdF V s x cs
  | .int _, _, cs, k => by
    obtain ⟨b, y, rfl, ⟨rfl, _⟩, k2⟩ := k.cons_left
    rw [k2.nil_left]; rfl
  | .bool, _, cs, k => by
    obtain ⟨b, y, rfl, ⟨rfl, _⟩, k2⟩ := k.cons_left
    rw [k2.nil_left]; rfl
  | .str, _, cs, k => by
    obtain ⟨b, y, rfl, ⟨rfl, _⟩, k2⟩ := k.cons_left
    rw [k2.nil_left]; rfl
  | .unit, _, cs, k => by rw [k.nil_left]; rfl
  | .pair a b, (x, y), cs, k => by
    obtain ⟨y1, y2, e, k1, k2⟩ := L2.split k
    exact ⟨y1, y2, e, RdF.of_l2 k1, RdF.of_l2 k2⟩
  | .sl s, l, cs, k => by
    obtain ⟨b, y, rfl, k1, k2⟩ := k.cons_left
    rw [k2.nil_left]; exact k1
theorem DenL.l2 {φ : NPhi} {V : View} {s : Sh} : ∀ {l : List (Dat s)} {cs : List Value}, DenL (RdF V s) l cs → L2 (N0 φ V) (l.flatMap (cellsN s)) cs
  | [], cs, k => by rw [show _ = _ from k]; exact trivial
  | x :: l, cs, ⟨c1, c2, e, k1, k2⟩ => by subst e; exact L2.append k1.l2 (DenL.l2 k2)
theorem DenL.of_l2 {φ : NPhi} {V : View} {s : Sh} : ∀ {l : List (Dat s)} {cs : List Value}, L2 (N0 φ V) (l.flatMap (cellsN s)) cs → DenL (RdF V s) l cs
  | [], cs, k => k.nil_left
  | x :: l, cs, k => by
    obtain ⟨y1, y2, e, k1, k2⟩ := L2.split (x := cellsN s x) k
    exact ⟨y1, y2, e, RdF.of_l2 k1, DenL.of_l2 k2⟩
theorem flatten_len {α : Type} {w : Nat} : ∀ {els : List (List α)}, (∀ el ∈ els, el.length = w) → els.flatten.length = els.length * w
  | [], _ => by simp
  | a :: l, h => by
    rw [List.flatten_cons, List.length_append, flatten_len (fun el he => h el (List.mem_cons_of_mem _ he)), h a (List.mem_cons_self ..), List.length_cons, Nat.add_mul]
    omega
theorem flatten_drop {α : Type} {w : Nat} : ∀ {els : List (List α)} (i : Nat), (∀ el ∈ els, el.length = w) → els.flatten.drop (i * w) = (els.drop i).flatten
  | els, 0, _ => by simp
  | [], i + 1, _ => by simp
  | a :: l, i + 1, h => by
    have ha := h a (List.mem_cons_self ..)
    rw [List.flatten_cons, List.drop_succ_cons, ← flatten_drop i (fun el he => h el (List.mem_cons_of_mem _ he)), Nat.add_mul, Nat.one_mul, Nat.add_comm, ← List.drop_drop]
    have : (a ++ l.flatten).drop w = l.flatten := by
      rw [List.drop_append, ha, Nat.sub_self, List.drop_zero, List.drop_of_length_le (by omega), List.nil_append]
    rw [this]
theorem flatten_take {α : Type} {w : Nat} : ∀ {els : List (List α)} (i : Nat), (∀ el ∈ els, el.length = w) → els.flatten.take (i * w) = (els.take i).flatten
  | els, 0, _ => by simp
  | [], i + 1, _ => by simp
  | a :: l, i + 1, h => by
    have ha := h a (List.mem_cons_self ..)
    rw [List.flatten_cons, List.take_succ_cons, List.flatten_cons, ← flatten_take i (fun el he => h el (List.mem_cons_of_mem _ he)), Nat.add_mul, Nat.one_mul, List.take_append, ha, Nat.add_sub_cancel, List.take_of_length_le (by omega)]
/-- n cells of one element. -/
theorem flatten_at {α : Type} {w : Nat} {els : List (List α)} (h : ∀ el ∈ els, el.length = w) {i o n : Nat} {el : List α} (he : els[i]? = some el) (hn : o + n ≤ w) : (els.flatten.drop (i * w + o)).take n = (el.drop o).take n := by
  have hlt : i < els.length := by rw [List.getElem?_eq_some_iff] at he; exact he.1
  have e1 : els.drop i = el :: els.drop (i + 1) := by
    rw [List.drop_eq_getElem_cons hlt]
    rw [List.getElem?_eq_some_iff] at he
    rw [he.2]
  have hel : el.length = w := h el (List.mem_of_getElem? he)
  rw [← List.drop_drop, flatten_drop i h, e1, List.flatten_cons, List.drop_append, List.take_append_of_le_length (by rw [List.length_drop]; omega)]

/-! ### How heaps stand to M's -/
def NRowR (φ : NPhi) (V : View) (H : Heap) (row : NRow) (b : Nat) : Prop := ∃ cells ty, H.get b = some ⟨cells, row.es, row.own, ty⟩ ∧ L2 (N0 φ V) row.els.flatten cells ∧ (∀ el ∈ row.els, el.length = row.w) ∧ ∀ t, row.ty = some t → ty = some t
structure SimH (φ : NPhi) (V K : View) (h : NHeap) (H : Heap) : Prop where
  ok : H.ok
  vk : V.le K
  kh : K.le H.get
  rows : ∀ r row, h.get r = some row → (φ r = some .nil ∧ row.els = [] ∧ row.own = true) ∨ ∃ b, φ r = some (.at b row.w) ∧ NRowR φ V H row b ∧ K b = none
  inj : ∀ r r' b w w', φ r = some (.at b w) → φ r' = some (.at b w') → h.get r ≠ none → h.get r' ≠ none → r = r'
  fresh : ∀ r, h.nx ≤ r → φ r = none
theorem NRowR.mono {φ φ' : NPhi} {V V' : View} {H H' : Heap} (hφ : φ.le φ') (hV : V.le V') {row : NRow} {b : Nat} (hb : H'.get b = H.get b) (h : NRowR φ V H row b) : NRowR φ' V' H' row b := by
  obtain ⟨cells, ty, h1, h2, h3, h4⟩ := h
  exact ⟨cells, ty, by rw [hb]; exact h1, h2.imp fun _ _ => N0.mono hφ hV, h3, h4⟩
theorem SimH.live {φ : NPhi} {V K : View} {h : NHeap} {H : Heap} (k : SimH φ V K h H) {r : Nat} {row : NRow} (hr : h.get r = some row) : r < h.nx := by
  rcases Nat.lt_or_ge r h.nx with g | g
  · exact g
  · have := k.fresh r g
    rcases k.rows r row hr with ⟨h1, _⟩ | ⟨b, h1, _⟩ <;> rw [this] at h1 <;> cases h1
/-- What a step may turn. -/
structure Ext (φ : NPhi) (V K : View) (H : Heap) (φ' : NPhi) (V' K' : View) (H' : Heap) : Prop where
  phi : φ.le φ'
  v : V.le V'
  k : K.le K'
  size : H.size ≤ H'.size
  new : ∀ b row, V' b = some row → K b = none ∨ V b = some row
theorem Ext.refl (φ : NPhi) (V K : View) (H : Heap) : Ext φ V K H φ V K H := ⟨NPhi.le_refl _, View.le_refl _, View.le_refl _, Nat.le_refl _, fun _ _ h => .inr h⟩
theorem Ext.trans {φ φ1 φ2 : NPhi} {V V1 V2 K K1 K2 : View} {H H1 H2 : Heap} (a : Ext φ V K H φ1 V1 K1 H1) (b : Ext φ1 V1 K1 H1 φ2 V2 K2 H2) : Ext φ V K H φ2 V2 K2 H2 :=
  ⟨a.phi.trans b.phi, a.v.trans b.v, a.k.trans b.k, Nat.le_trans a.size b.size, fun x row h => by
    rcases b.new x row h with h1 | h1
    · left
      cases e : K x with
      | none => rfl
      | some r => rw [a.k x r e] at h1; cases h1
    · exact a.new x row h1⟩

/-! ### Temps -/
abbrev NEnv := List (Nat × NV)
def nlook : NEnv → Nat → Option NV
  | [], _ => none
  | (k, v) :: r, t => if k = t then some v else nlook r t
def nput (e : NEnv) : Option Nat → NV → NEnv
  | some d, v => (d, v) :: e
  | none, _ => e
def nkeep (e : NEnv) : List Nat → NEnv
  | [] => []
  | t :: r => match nlook e t with
    | some v => (t, v) :: nkeep e r
    | none => nkeep e r
def nenum : Nat → List NV → NEnv
  | _, [] => []
  | i, v :: r => (i, v) :: nenum (i + 1) r
def EN (φ : NPhi) (V : View) (e : NEnv) (em : Env) : Prop := ∀ t x, nlook e t = some x → ∃ u, look em t = some u ∧ N3 φ V x u
theorem EN.mono {φ φ' : NPhi} {V V' : View} (hφ : φ.le φ') (hV : V.le V') {e : NEnv} {em : Env} (h : EN φ V e em) : EN φ' V' e em := fun t x k => by
  obtain ⟨u, h1, h2⟩ := h t x k
  exact ⟨u, h1, h2.mono hφ hV⟩
theorem EN.put {φ : NPhi} {V : View} {e : NEnv} {em : Env} (h : EN φ V e em) (d : Option Nat) {x : NV} {u : Value} (hx : N3 φ V x u) : EN φ V (nput e d x) (put em d u) := by
  cases d with
  | none => exact h
  | some d =>
    intro t y k
    simp only [nput, nlook] at k
    simp only [M.put, look, beq_eq, cond_eq_ite, decide_eq_true_eq]
    by_cases hd : d = t
    · rw [if_pos hd] at k
      cases k
      exact ⟨u, by rw [if_pos hd], hx⟩
    · rw [if_neg hd] at k
      rw [if_neg hd]
      exact h t y k
theorem look_keep {em : Env} {t : Nat} : ∀ {l : List Nat}, t ∈ l → look (keepOf em l) t = look em t
  | a :: l, h => by
    simp only [keepOf]
    by_cases e : a = t
    · subst e
      cases hl : look em a with
      | none =>
        simp only
        by_cases hm : a ∈ l
        · rw [look_keep hm, hl]
        · clear h
          induction l with
          | nil => rfl
          | cons b l ih =>
            simp only [List.mem_cons, not_or] at hm
            simp only [keepOf]
            cases hb : look em b with
            | none => exact ih hm.2
            | some v =>
              simp only [look, beq_eq, cond_eq_ite, decide_eq_true_eq]
              rw [if_neg (fun e => hm.1 e.symm)]
              exact ih hm.2
      | some v => simp [look, beq_eq]
    · have hm : t ∈ l := by simpa [Ne.symm e] using h
      cases hl : look em a with
      | none => exact look_keep hm
      | some v =>
        simp only [look, beq_eq, cond_eq_ite, decide_eq_true_eq]
        rw [if_neg e]
        exact look_keep hm
theorem nlook_keep {e : NEnv} {t : Nat} {x : NV} : ∀ {l : List Nat}, nlook (nkeep e l) t = some x → t ∈ l ∧ nlook e t = some x
  | [], h => by simp [nkeep, nlook] at h
  | a :: l, h => by
    simp only [nkeep] at h
    cases hl : nlook e a with
    | none =>
      rw [hl] at h
      obtain ⟨h1, h2⟩ := nlook_keep h
      exact ⟨List.mem_cons_of_mem _ h1, h2⟩
    | some v =>
      rw [hl] at h
      simp only [nlook] at h
      by_cases e1 : a = t
      · rw [if_pos e1] at h
        cases h
        subst e1
        exact ⟨List.mem_cons_self .., hl⟩
      · rw [if_neg e1] at h
        obtain ⟨h1, h2⟩ := nlook_keep h
        exact ⟨List.mem_cons_of_mem _ h1, h2⟩
theorem EN.keep {φ : NPhi} {V : View} {e : NEnv} {em : Env} (h : EN φ V e em) (l : List Nat) : EN φ V (nkeep e l) (keepOf em l) := fun t x k => by
  obtain ⟨h1, h2⟩ := nlook_keep k
  obtain ⟨u, h3, h4⟩ := h t x h2
  exact ⟨u, by rw [look_keep h1]; exact h3, h4⟩
theorem EN.enum {φ : NPhi} {V : View} : ∀ {vs : List NV} {us : List Value} (i : Nat), L2 (N3 φ V) vs us → EN φ V (nenum i vs) (enumFrom i us)
  | [], [], _, _ => fun t x k => by simp [nenum, nlook] at k
  | a :: vs, b :: us, i, h => fun t x k => by
    simp only [nenum, nlook] at k
    simp only [enumFrom, look, beq_eq, cond_eq_ite, decide_eq_true_eq]
    by_cases e : i = t
    · rw [if_pos e] at k
      cases k
      exact ⟨b, by rw [if_pos e], h.1⟩
    · rw [if_neg e] at k
      rw [if_neg e]
      exact EN.enum (i + 1) h.2 t x k
  | [], _ :: _, _, h => h.elim
  | _ :: _, [], _, h => h.elim
end Go.Proofs.Ytnjmdkecpadehaa.M
