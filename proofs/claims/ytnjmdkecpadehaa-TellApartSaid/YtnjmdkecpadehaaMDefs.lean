/- The framework M, first text: its heap, its language, its runs, and the look that compares its code with the loaded program's. Conditions: none; definitions, and laws of the heap. -/
import Derived.WalkKit
import Derived.LoopN
import Derived.KernelRfl
set_option linter.all false
set_option linter.unusedSimpArgs false
namespace Go.Proofs.Ytnjmdkecpadehaa.M

/-! ### The heap: rows by their numbers -/
structure Row where
  cells : List Value
  es : Nat
  own : Bool
  ty : Option Nat

inductive T where
  | e
  | n (l : T) (v : Option Row) (r : T)

def T.get : T → Nat → Option Row
  | .e, _ => none
  | .n l v r, i => bif Nat.beq i 0 then v else bif Nat.beq (i % 2) 1 then l.get (i / 2) else r.get (i / 2 - 1)

def T.put (v : Option Row) : Nat → T → Nat → T
  | 0, .e, _ => .n .e v .e
  | 0, .n l _ r, _ => .n l v r
  | k + 1, .e, i => bif Nat.beq i 0 then .n .e v .e else bif Nat.beq (i % 2) 1 then .n (T.put v k .e (i / 2)) none .e else .n .e none (T.put v k .e (i / 2 - 1))
  | k + 1, .n l u r, i => bif Nat.beq i 0 then .n l v r else bif Nat.beq (i % 2) 1 then .n (T.put v k l (i / 2)) u r else .n l u (T.put v k r (i / 2 - 1))

theorem beq_eq (i j : Nat) : Nat.beq i j = decide (i = j) := by
  by_cases h : i = j
  · subst h; simp
  · have : Nat.beq i j = false := by
      cases hb : Nat.beq i j with
      | false => rfl
      | true => exact absurd (Nat.eq_of_beq_eq_true hb) h
    simp [this, h]

theorem T.get_put (v : Option Row) : ∀ (k : Nat) (t : T) (i j : Nat), i ≤ k → (T.put v k t i).get j = if j = i then v else t.get j := by
  intro k
  induction k with
  | zero =>
    intro t i j h
    obtain rfl : i = 0 := by omega
    cases t <;> simp only [T.put, T.get, beq_eq] <;> by_cases hj : j = 0 <;> simp [hj] <;> (split <;> rfl)
  | succ k ih =>
    intro t i j h
    cases t with
    | e =>
      simp only [T.put, beq_eq]
      by_cases hi : i = 0
      · subst hi
        simp only [decide_true, cond_true, T.get, beq_eq]
        by_cases hj : j = 0 <;> simp [hj] <;> (split <;> rfl)
      · by_cases hp : i % 2 = 1
        · simp only [hi, hp, decide_false, decide_true, cond_false, cond_true, T.get, beq_eq]
          by_cases hj : j = 0
          · simp [hj]; omega
          · by_cases hq : j % 2 = 1
            · simp only [hj, hq, decide_false, decide_true, cond_false, cond_true]
              rw [ih _ _ _ (by omega)]
              by_cases e : j = i
              · subst e; simp
              · rw [if_neg (by omega), if_neg e]; rfl
            · simp only [hj, hq, decide_false, cond_false]
              rw [if_neg (by intro e; subst e; exact hq hp)]
        · simp only [hi, hp, decide_false, cond_false, T.get, beq_eq]
          by_cases hj : j = 0
          · simp [hj]; omega
          · by_cases hq : j % 2 = 1
            · simp only [hj, hq, decide_false, decide_true, cond_false, cond_true]
              rw [if_neg (by intro e; subst e; exact hp hq)]
            · simp only [hj, hq, decide_false, cond_false]
              rw [ih _ _ _ (by omega)]
              by_cases e : j = i
              · subst e; simp
              · rw [if_neg (by omega), if_neg e]; rfl
    | n l u r =>
      simp only [T.put, beq_eq]
      by_cases hi : i = 0
      · subst hi
        simp only [decide_true, cond_true, T.get, beq_eq]
        by_cases hj : j = 0 <;> simp [hj]
      · by_cases hp : i % 2 = 1
        · simp only [hi, hp, decide_false, decide_true, cond_false, cond_true, T.get, beq_eq]
          by_cases hj : j = 0
          · simp [hj]; omega
          · by_cases hq : j % 2 = 1
            · simp only [hj, hq, decide_false, decide_true, cond_false, cond_true]
              rw [ih _ _ _ (by omega)]
              by_cases e : j = i
              · subst e; simp
              · rw [if_neg (by omega), if_neg e]
            · simp only [hj, hq, decide_false, cond_false]
              rw [if_neg (by intro e; subst e; exact hq hp)]
        · simp only [hi, hp, decide_false, cond_false, T.get, beq_eq]
          by_cases hj : j = 0
          · simp [hj]; omega
          · by_cases hq : j % 2 = 1
            · simp only [hj, hq, decide_false, decide_true, cond_false, cond_true]
              rw [if_neg (by intro e; subst e; exact hp hq)]
            · simp only [hj, hq, decide_false, cond_false]
              rw [ih _ _ _ (by omega)]
              by_cases e : j = i
              · subst e; simp
              · rw [if_neg (by omega), if_neg e]

structure Heap where
  t : T
  size : Nat

def Heap.get (H : Heap) (b : Nat) : Option Row := H.t.get b
def Heap.set (H : Heap) (b : Nat) (r : Option Row) : Heap := ⟨T.put r b H.t b, H.size⟩
def Heap.push (H : Heap) (r : Row) : Heap := ⟨T.put (some r) H.size H.t H.size, H.size + 1⟩
def Heap.none : Heap := ⟨.e, 0⟩

theorem Heap.get_set (H : Heap) (b : Nat) (r : Option Row) (c : Nat) : (H.set b r).get c = if c = b then r else H.get c := T.get_put _ _ _ _ _ (Nat.le_refl _)
theorem Heap.get_push (H : Heap) (r : Row) (c : Nat) : (H.push r).get c = if c = H.size then some r else H.get c := T.get_put _ _ _ _ _ (Nat.le_refl _)
theorem Heap.size_set (H : Heap) (b : Nat) (r : Option Row) : (H.set b r).size = H.size := rfl
theorem Heap.size_push (H : Heap) (r : Row) : (H.push r).size = H.size + 1 := rfl

/-- n cells from a place on. -/
def Heap.loadN (H : Heap) (b off n : Nat) : Option (List Value) :=
  match H.get b with
  | some row => let cs := (row.cells.drop off).take n; bif Nat.beq cs.length n then some cs else .none
  | .none => .none
def splice (xs : List Value) (off : Nat) (vs : List Value) : List Value := xs.take off ++ vs ++ xs.drop (off + vs.length)
def Heap.storeN (H : Heap) (b off : Nat) (vs : List Value) : Option Heap :=
  match H.get b with
  | some row => bif row.own && Nat.ble (off + vs.length) row.cells.length then some (H.set b (some { row with cells := splice row.cells off vs })) else .none
  | .none => .none

/-! ### Values and temps -/
/-- A value's cells; none: it is none that memory holds. -/
def cellsOf : Value → Option (List Value)
  | .agg cs => some cs.toList
  | .tuple _ => none
  | .func .. => none
  | v => some [v]
/-- No function, no row of results. -/
def simpleV : Value → Bool
  | .tuple _ => false
  | .func .. => false
  | _ => true
def unit : Value := .tuple #[]
abbrev Env := List (Nat × Value)
def look : Env → Nat → Option Value
  | [], _ => none
  | (k, v) :: r, t => bif Nat.beq k t then some v else look r t
def put (e : Env) : Option Nat → Value → Env
  | some d, v => (d, v) :: e
  | none, _ => e
def keepOf (e : Env) : List Nat → Env
  | [] => []
  | t :: r => match look e t with
    | some v => (t, v) :: keepOf e r
    | none => keepOf e r

/-- An operand. -/
inductive X where
  | t (n : Nat)
  | c (v : Value)
  | f (n : Nat)
def X.ev (e : Env) : X → Option Value
  | .t n => look e n
  | .c v => some v
  | .f n => some (.func (.func n) #[] #[])
def evs (e : Env) : List X → Option (List Value)
  | [] => some []
  | x :: r => match x.ev e, evs e r with
    | some v, some vs => some (v :: vs)
    | _, _ => none

/-- An operation. -/
inductive I where
  | mov (x : X)
  | pick (c a b : X)
  | alloc (es : Nat) (z : List Value)
  | box (n : Nat) (x : X)
  | build (z : List Value) (ps : List (Nat × Nat × X))
  | bsl (es : Nat) (z : List Value) (len : Nat) (ps : List (Nat × X))
  | load (agg : Bool) (n : Nat) (a : X)
  | store (n : Nat) (a x : X)
  | nilck (x : X)
  | bin (o : BinOp) (x y : X)
  | eqb (neq : Bool) (x y : X)
  | eqs (neq : Bool) (ks : List Nat) (x y : X)
  | eqp (neq : Bool) (x y : X)
  | un (o : UnOp) (x : X)
  | conv (k : IntKind) (x : X)
  | s2b (x : X)
  | b2s (x : X)
  | mki (t : Nat) (x : X)
  | mkf (f : Nat) (cs : List X)
  | mks (es : Nat) (z : List Value) (bytes : Nat) (len cap : X)
  | slc (es : Nat) (x : X) (lo hi mx : Option X)
  | sls (x : X) (lo hi : Option X)
  | fa (off : Nat) (a : X)
  | fld (agg : Bool) (off n : Nat) (x : X)
  | ia (es : Nat) (x i : X)
  | idx (x i : X)
  | ext (x : X) (k : Nat)
  | len (x : X)
  | lens (x : X)
  | app (ty es bytes : Nat) (s x : X)
  | clr (es : Nat) (z : List Value) (x : X)
  | mn (xs : List X)
  | mx (xs : List X)
  | call (f : Nat) (xs : List X)
  | callv (f : X) (xs : List X)
  | p2u (x : X)
  | u2p (ty n : Nat) (x : X)
  | noesc (f : Nat) (x : X)
  | usd (x : X)
  | uss (ty : Nat) (x n : X)

structure O where
  d : Option Nat
  g : Option (Nat × Bool)
  i : I

/-- An operation of a region that draws its order. chk: of a load, the elder operations that act and stand in no order with it; of one that acts, such loads. -/
structure D where
  o : O
  chk : List Nat

inductive C where
  | reg (ops : List O) (keep : List Nat)
  | dreg (ops : List D) (keep : List Nat)
  | seq (a b : C)
  | cond (x : X) (a b : C)
  | blk (id : Nat) (c : C)
  | loop (c : C)
  | exit (id : Nat)
  | ret
  | skip
  | dead

inductive R where
  | t (n : Nat)
  | c (a : Nat) (agg : Bool) (n : Nat)

structure MF where
  na : Nat
  res : List R
  body : C

/-! ### What an operation makes -/
def shiftBy (o : BinOp) (k : IntKind) (a b : Int) : Option Value :=
  if b < 0 then none else
  match o with
  | .shl => some (.int k (k.wrap (a * 2 ^ (min b.toNat k.bits))))
  | .shr => some (.int k (a.fdiv (2 ^ (min b.toNat k.bits))))
  | _ => none
def intOp (o : BinOp) (k : IntKind) (a b : Int) : Option Value :=
  match o with
  | .add => some (.int k (k.wrap (a + b)))
  | .sub => some (.int k (k.wrap (a - b)))
  | .mul => some (.int k (k.wrap (a * b)))
  | .quo => if b = 0 then none else some (.int k (k.wrap (a.tdiv b)))
  | .rem => if b = 0 then none else some (.int k (a.tmod b))
  | .and => some (.int k (k.wrap (BitVec.ofInt k.bits a &&& BitVec.ofInt k.bits b).toNat))
  | .or => some (.int k (k.wrap (BitVec.ofInt k.bits a ||| BitVec.ofInt k.bits b).toNat))
  | .xor => some (.int k (k.wrap (BitVec.ofInt k.bits a ^^^ BitVec.ofInt k.bits b).toNat))
  | .andNot => some (.int k (k.wrap (BitVec.ofInt k.bits a &&& ~~~ BitVec.ofInt k.bits b).toNat))
  | .eql => some (.bool (a == b))
  | .neq => some (.bool (a != b))
  | .lss => some (.bool (a < b))
  | .leq => some (.bool (a ≤ b))
  | .gtr => some (.bool (a > b))
  | .geq => some (.bool (a ≥ b))
  | _ => none
def strOp (o : BinOp) (a b : ByteArray) : Option Value :=
  match o with
  | .add => if a.size + b.size ≤ 9223372036854775807 then some (.string (a ++ b)) else none
  | .eql => some (.bool (a.toList == b.toList))
  | .neq => some (.bool !(a.toList == b.toList))
  | .lss => some (.bool (Op.bytesLess a.toList b.toList))
  | .leq => some (.bool (Op.bytesLess a.toList b.toList || a.toList == b.toList))
  | .gtr => some (.bool !(Op.bytesLess a.toList b.toList || a.toList == b.toList))
  | .geq => some (.bool !(Op.bytesLess a.toList b.toList))
  | _ => none
def isShift : BinOp → Bool
  | .shl => true
  | .shr => true
  | _ => false
def binV (o : BinOp) (x y : Value) : Option Value :=
  match x, y with
  | .int k a, .int k' b => if isShift o then shiftBy o k a b else if k = k' then intOp o k a b else none
  | .string a, .string b => strOp o a b
  | _, _ => none
/-- Two cells, both of one plain kind (0: a whole number, 1: a bool, 2: a string): alike? -/
def eqCell : Nat → Value → Value → Option Bool
  | 0, .int k a, .int k' b => if k = k' then some (a == b) else none
  | 1, .bool a, .bool b => some (a == b)
  | 2, .string a, .string b => some (a == b)
  | _, _, _ => none
def eqCells : List Nat → List Value → List Value → Option Bool
  | [], [], [] => some true
  | k :: ks, a :: x, b :: y => match eqCell k a b, eqCells ks x y with
    | some p, some q => some (p && q)
    | _, _ => none
  | _, _, _ => none
def unV (o : UnOp) (x : Value) : Option Value :=
  match o, x with
  | .neg, .int k n => some (.int k (k.wrap (0 - n)))
  | .xor, .int k n => some (.int k (k.wrap (BitVec.ofInt k.bits (if k.signed then -1 else k.max) ^^^ BitVec.ofInt k.bits n).toNat))
  | .not, .bool b => some (.bool !b)
  | _, _ => none
/-- Parts laid into cells. -/
def fillM (ps : List (Nat × Nat × Value)) (cells : List Value) : Option (List Value) :=
  match ps with
  | [] => some cells
  | (off, size, v) :: r => match cellsOf v with
    | some cs => bif Nat.beq cs.length size && Nat.ble (off + size) cells.length then fillM r (splice cells off cs) else none
    | none => none
def evp (e : Env) : List (Nat × Nat × X) → Option (List (Nat × Nat × Value))
  | [] => some []
  | (o, n, x) :: r => match x.ev e, evp e r with
    | some v, some vs => some ((o, n, v) :: vs)
    | _, _ => none
def reps (n : Nat) (z : List Value) : List Value := match n with
  | 0 => []
  | n + 1 => z ++ reps n z
def bound (x : Option Value) (y : Nat) (dflt : Nat) : Option Nat :=
  match x with
  | none => some dflt
  | some (.int _ i) => if 0 ≤ i ∧ i ≤ y then some i.toNat else none
  | _ => none
def evo (e : Env) : Option X → Option (Option Value)
  | none => some none
  | some x => match x.ev e with
    | some v => some (some v)
    | none => none
def maxL (k : IntKind) : Int → List Value → Option Value
  | a, [] => some (.int k a)
  | a, .int _ b :: r => maxL k (if b > a then b else a) r
  | _, _ => none
def minL (k : IntKind) : Int → List Value → Option Value
  | a, [] => some (.int k a)
  | a, .int _ b :: r => minL k (if b < a then b else a) r
  | _, _ => none
def bytesV (s : ByteArray) : List Value := s.data.toList.map fun b => .int .u8 b.toNat
def strV : List Value → Option (List UInt8)
  | [] => some []
  | .int .u8 n :: r => match strV r with
    | some l => some (UInt8.ofNat n.toNat :: l)
    | none => none
  | _ => none
/-- The cells that append takes from its second argument, and how many elements. -/
def newOf (H : Heap) (es : Nat) : Value → Option (List Value × Nat)
  | .slice none 0 0 => some ([], 0)
  | .slice (some ⟨b, off, none⟩) n _ => match H.loadN b off (n * es) with
    | some cs => some (cs, n)
    | none => bif Nat.beq n 0 then some ([], 0) else none
  | .string s => bif Nat.beq es 1 then some (bytesV s, s.size) else none
  | _ => none
def room : Nat := 140737488355328
/-- append: in place where there is surely room; else a new row, and, where it could have been in place, the old one is gone. -/
def keepTy (ty off : Nat) : Option Nat → Option Nat
  | some t => bif Nat.beq t ty && Nat.beq off 0 then some ty else none
  | none => none
def appV (ty es bytes : Nat) (H : Heap) (s x : Value) : Option (Value × Heap) :=
  match newOf H es x with
  | none => none
  | some (cs, m) =>
    match s with
    | .slice none 0 0 =>
      bif Nat.beq m 0 then some (s, H)
      else bif Nat.ble (m * bytes) room then some (.slice (some ⟨H.size, 0, none⟩) m m, H.push ⟨cs, es, true, some ty⟩) else none
    | .slice (some ⟨b, off, none⟩) n c =>
      bif Nat.beq m 0 then some (s, H)
      else bif Nat.ble (n + m) c then
        match H.storeN b (off + n * es) cs with
        | some H' => some (.slice (some ⟨b, off, none⟩) (n + m) c, H')
        | none => none
      else bif Nat.ble ((n + m) * bytes) room then
        match H.get b with
        | none => none
        | some row =>
          let old := (row.cells.drop off).take (n * es)
          bif Nat.beq old.length (n * es) && Nat.beq row.es es then
            bif Nat.blt (off + c * es) row.cells.length then some (.slice (some ⟨H.size, 0, none⟩) (n + m) (n + m), H.push ⟨old ++ cs, es, true, keepTy ty off row.ty⟩)
            else bif row.own then some (.slice (some ⟨H.size, 0, none⟩) (n + m) (n + m), (H.set b none).push ⟨old ++ cs, es, true, keepTy ty off row.ty⟩)
            else none
          else none
      else none
    | _ => none

abbrev CallFn := Nat → List Value → Heap → Option (Value × Heap)
/-- One operation, carried out. -/
def I.run (call : CallFn) (e : Env) (H : Heap) : I → Option (Value × Heap)
  | .mov x => match x.ev e with
    | some v => some (v, H)
    | none => none
  | .pick c a b => match c.ev e, a.ev e, b.ev e with
    | some (.bool p), some v, some u => some (bif p then v else u, H)
    | _, _, _ => none
  | .alloc es z => some (.pointer (some ⟨H.size, 0, none⟩), H.push ⟨z, es, true, some es⟩)
  | .box n x => match x.ev e with
    | some v => match cellsOf v with
      | some cs => bif Nat.beq cs.length n then some (.pointer (some ⟨H.size, 0, none⟩), H.push ⟨cs, n, true, none⟩) else none
      | none => none
    | none => none
  | .build z ps => match evp e ps with
    | some vs => match fillM vs z with
      | some cs => some (.agg cs.toArray, H)
      | none => none
    | none => none
  | .bsl es z m ps => match evp e (ps.map fun p => (p.1 * es, es, p.2)) with
    | some vs => match fillM vs (reps m z) with
      | some cs => some (.slice (some ⟨H.size, 0, none⟩) m m, H.push ⟨cs, es, true, none⟩)
      | none => none
    | none => none
  | .load agg n a => match a.ev e with
    | some (.pointer (some ⟨b, off, none⟩)) => match H.loadN b off n with
      | some cs => bif agg then some (.agg cs.toArray, H) else match cs with
        | [v] => some (v, H)
        | _ => none
      | none => none
    | _ => none
  | .store n a x => match a.ev e, x.ev e with
    | some (.pointer (some ⟨b, off, none⟩)), some v => match cellsOf v with
      | some cs => bif Nat.beq cs.length n then (match H.storeN b off cs with
        | some H' => some (unit, H')
        | none => none) else none
      | none => none
    | _, _ => none
  | .nilck x => match x.ev e with
    | some (.pointer (some a)) => some (.pointer (some a), H)
    | _ => none
  | .bin o x y => match x.ev e, y.ev e with
    | some v, some u => match binV o v u with
      | some r => some (r, H)
      | none => none
    | _, _ => none
  | .eqb neq x y => match x.ev e, y.ev e with
    | some (.bool p), some (.bool q) => some (.bool (bif neq then !(p == q) else p == q), H)
    | _, _ => none
  | .eqs neq ks x y => match x.ev e, y.ev e with
    | some (.agg p), some (.agg q) => match eqCells ks p.toList q.toList with
      | some r => some (.bool (bif neq then !r else r), H)
      | none => none
    | _, _ => none
  | .eqp neq x y => match x.ev e, y.ev e with
    | some (.pointer p), some (.pointer none) => some (.bool (bif neq then !p.isNone else p.isNone), H)
    | some (.pointer (some p)), some (.pointer (some q)) => if p = q then some (.bool (!neq), H) else none
    | _, _ => none
  | .un o x => match x.ev e with
    | some v => match unV o v with
      | some r => some (r, H)
      | none => none
    | none => none
  | .conv k x => match x.ev e with
    | some (.int _ n) => some (.int k (k.wrap n), H)
    | _ => none
  | .s2b x => match x.ev e with
    | some (.string s) => some (.slice (some ⟨H.size, 0, none⟩) s.size s.size, H.push ⟨bytesV s, 1, false, none⟩)
    | _ => none
  | .b2s x => match x.ev e with
    | some (.slice none _ _) => some (.string ByteArray.empty, H)
    | some (.slice (some ⟨b, off, none⟩) n _) => match H.loadN b off n with
      | some cs => match strV cs with
        | some l => some (.string ⟨l.toArray⟩, H)
        | none => none
      | none => bif Nat.beq n 0 then some (.string ByteArray.empty, H) else none
    | _ => none
  | .mki t x => match x.ev e with
    | some (.int k n) => some (.iface t (.int k n), H)
    | _ => none
  | .mkf f cs => match evs e cs with
    | some vs => bif vs.all simpleV then some (.func (.func f) #[] vs.toArray, H) else none
    | none => none
  | .mks es z bytes l c => match l.ev e, c.ev e with
    | some (.int .i64 n), some (.int .i64 m) => if 0 ≤ n ∧ n ≤ m ∧ m * bytes ≤ 281474976710656 ∧ m ≤ 9223372036854775807 then
        some (.slice (some ⟨H.size, 0, none⟩) n.toNat m.toNat, H.push ⟨reps m.toNat z, es, true, none⟩) else none
    | _, _ => none
  | .slc es x lo hi top => match x.ev e, evo e lo, evo e hi, evo e top with
    | some (.slice a n c), some l, some h, some m =>
      match bound m c c with
      | none => none
      | some m' => match bound h m' n with
        | none => none
        | some h' => match bound l h' 0 with
          | none => none
          | some l' => match a with
            | none => bif Nat.beq c 0 then some (.slice none 0 0, H) else none
            | some ⟨b, off, none⟩ => bif Nat.beq c 0 then some (.slice (some ⟨b, off, none⟩) 0 0, H) else match H.get b with
              | some row => bif Nat.beq row.es es then some (.slice (some ⟨b, off + l' * es, none⟩) (h' - l') (m' - l'), H) else none
              | none => none
            | _ => none
    | _, _, _, _ => none
  | .sls x lo hi => match x.ev e, evo e lo, evo e hi with
    | some (.string s), some l, some h =>
      match bound h s.size s.size with
      | none => none
      | some h' => match bound l h' 0 with
        | none => none
        | some l' => some (.string (s.extract l' h'), H)
    | _, _, _ => none
  | .fa off a => match a.ev e with
    | some (.pointer (some ⟨b, o, none⟩)) => some (.pointer (some ⟨b, o + off, none⟩), H)
    | _ => none
  | .fld agg off n x => match x.ev e with
    | some (.agg cs) => bif agg then (let l := (cs.toList.drop off).take n; bif Nat.beq l.length n then some (.agg l.toArray, H) else none)
      else match cs.toList[off]? with
        | some v => some (v, H)
        | none => none
    | _ => none
  | .ia es x i => match x.ev e, i.ev e with
    | some (.slice (some ⟨b, off, none⟩) n _), some (.int _ j) => if 0 ≤ j ∧ j < n then some (.pointer (some ⟨b, off + j.toNat * es, none⟩), H) else none
    | _, _ => none
  | .idx x i => match x.ev e, i.ev e with
    | some (.string s), some (.int _ j) => if 0 ≤ j then (match s.data.toList[j.toNat]? with
      | some b => some (.int .u8 b.toNat, H)
      | none => none) else none
    | _, _ => none
  | .ext x k => match x.ev e with
    | some (.tuple vs) => match vs.toList[k]? with
      | some v => some (v, H)
      | none => none
    | _ => none
  | .len x => match x.ev e with
    | some (.slice _ n _) => some (.int .i64 n, H)
    | _ => none
  | .lens x => match x.ev e with
    | some (.string s) => some (.int .i64 s.size, H)
    | _ => none
  | .app ty es bytes s x => match s.ev e, x.ev e with
    | some v, some u => appV ty es bytes H v u
    | _, _ => none
  | .clr es z x => match x.ev e with
    | some (.slice none _ _) => some (unit, H)
    | some (.slice (some ⟨b, off, none⟩) n _) => bif Nat.beq n 0 then some (unit, H) else match H.storeN b off (reps n z) with
      | some H' => some (unit, H')
      | none => none
    | _ => none
  | .mn xs => match evs e xs with
    | some (.int k a :: r) => match minL k a r with
      | some v => some (v, H)
      | none => none
    | _ => none
  | .mx xs => match evs e xs with
    | some (.int k a :: r) => match maxL k a r with
      | some v => some (v, H)
      | none => none
    | _ => none
  | .call f xs => match evs e xs with
    | some vs => call f vs H
    | none => none
  | .callv fx xs => match fx.ev e, evs e xs with
    | some (.func (.func f) first cap), some vs => call f (first.toList ++ vs ++ cap.toList) H
    | _, _ => none
  | .p2u x => match x.ev e with
    | some (.pointer none) => some (.pointer none, H)
    | some (.pointer (some ⟨b, off, none⟩)) => match H.get b with
      | some row => bif row.own && Nat.blt off row.cells.length then some (.pointer (some ⟨b, off, none⟩), H) else none
      | none => none
    | _ => none
  | .u2p ty n x => match x.ev e with
    | some (.pointer none) => some (.pointer none, H)
    | some (.pointer (some ⟨b, off, none⟩)) => match H.get b with
      | some row => bif row.own && (Nat.beq off 0 && Nat.ble n row.cells.length) then (match row.ty with
        | some t => bif Nat.beq t ty then some (.pointer (some ⟨b, off, none⟩), H) else none
        | none => none) else none
      | none => none
    | _ => none
  | .noesc _ x => match x.ev e with
    | some (.pointer p) => some (.pointer p, H)
    | _ => none
  | .usd x => match x.ev e with
    | some (.slice none _ _) => some (.pointer none, H)
    | some (.slice (some ⟨b, off, none⟩) _ c) => bif Nat.blt 0 c then some (.pointer (some ⟨b, off, none⟩), H) else none
    | _ => none
  | .uss ty x n => match x.ev e, n.ev e with
    | some (.pointer none), some (.int .i64 m) => if m = 0 then some (.string ByteArray.empty, H) else none
    | some (.pointer (some ⟨b, off, none⟩)), some (.int .i64 m) => if 0 < m ∧ m ≤ 9223372036854775807 then (match H.get b with
      | some row => match row.ty with
        | some t => bif row.own && Nat.beq t ty then (match H.loadN b off m.toNat with
          | some cs => match strV cs with
            | some l => some (.string ⟨l.toArray⟩, H.set b none)
            | none => none
          | none => none) else none
        | none => none
      | none => none) else none
    | _, _ => none

/-- Is an operation wanted? none: its guard is not told. -/
def O.want (e : Env) (o : O) : Option Bool :=
  match o.g with
  | none => some true
  | some (t, b) => match look e t with
    | some (.bool p) => some (p == b)
    | some (.tuple _) => some false
    | _ => none
def O.run (call : CallFn) (e : Env) (H : Heap) (o : O) : Option (Env × Heap) :=
  match o.want e with
  | none => none
  | some false => some (put e o.d unit, H)
  | some true => match o.i.run call e H with
    | some (v, H') => some (put e o.d v, H')
    | none => none
def runOps (call : CallFn) : List O → Env → Heap → Option (Env × Heap)
  | [], e, H => some (e, H)
  | o :: r, e, H => match o.run call e H with
    | some (e', H') => runOps call r e' H'
    | none => none

inductive Cls where
  | calm | load | act | alloc
  deriving DecidableEq
def I.cls : I → Cls
  | .load .. => .load
  | .slc .. => .load
  | .alloc .. => .alloc
  | .box .. | .bsl .. | .store .. | .s2b _ | .b2s _ | .mks .. | .app .. | .clr .. | .call .. | .callv .. | .p2u _ | .u2p .. | .uss .. => .act
  | _ => .calm

/-- Where a region that draws its order stands, in the text's order: temps; the heap as the last operation that acted has left it; what was allocated since; what was looked at so far; the heaps ahead of those that acted. -/
structure DS where
  e : Env
  H : Heap
  pend : List Row
  lds : List (Nat × (Nat × Nat × Nat) × (List Value × Nat))
  hbs : List (Nat × Heap)
def pushAll (H : Heap) : List Row → Heap
  | [] => H
  | r :: l => pushAll (H.push r) l
def findN {α : Type} : List (Nat × α) → Nat → Option α
  | [], _ => none
  | (k, v) :: r, t => bif Nat.beq k t then some v else findN r t
/-- The same value, as far as that is told by sight. -/
def sameVal : Value → Value → Bool
  | .int k n, .int k' n' => decide (k = k') && decide (n = n')
  | .bool a, .bool b => decide (a = b)
  | .string a, .string b => decide (a.data.toList = b.data.toList)
  | .pointer a, .pointer b => decide (a = b)
  | .slice a n c, .slice b m d => decide (a = b) && decide (n = m) && decide (c = d)
  | .nilIface, .nilIface => true
  | .nilFunc, .nilFunc => true
  | .iface t (.int k n), .iface t' (.int k' n') => decide (t = t') && decide (k = k') && decide (n = n')
  | _, _ => false
def sameVals : List Value → List Value → Bool
  | [], [] => true
  | a :: x, b :: y => sameVal a b && sameVals x y
  | _, _ => false
/-- Which cells an operation looks at. -/
def I.peek (e : Env) : I → Option (Nat × Nat × Nat)
  | .load _ n a => match a.ev e with
    | some (.pointer (some ⟨b, off, none⟩)) => some (b, off, n)
    | _ => none
  | .slc _ x _ _ _ => match x.ev e with
    | some (.slice (some ⟨b, _, none⟩) _ c) => bif Nat.beq c 0 then none else some (b, 0, 0)
    | _ => none
  | _ => none
def peekAt (H : Heap) (p : Nat × Nat × Nat) : Option (List Value × Nat) :=
  match H.get p.1 with
  | some row => match H.loadN p.1 p.2.1 p.2.2 with
    | some cs => some (cs, row.es)
    | none => none
  | none => none
def ldOk (H : Heap) (p : Nat × Nat × Nat) (ce : List Value × Nat) : Bool :=
  match peekAt H p with
  | some c => sameVals c.1 ce.1 && Nat.beq c.2 ce.2
  | none => false
def chkLd (hbs : List (Nat × Heap)) (p : Nat × Nat × Nat) (ce : List Value × Nat) : List Nat → Bool
  | [] => true
  | j :: r => (match findN hbs j with
    | some H => ldOk H p ce
    | none => true) && chkLd hbs p ce r
def chkAct (lds : List (Nat × (Nat × Nat × Nat) × (List Value × Nat))) (H : Heap) : List Nat → Bool
  | [] => true
  | k :: r => (match findN lds k with
    | some (p, ce) => ldOk H p ce
    | none => true) && chkAct lds H r
def D.run (call : CallFn) (i : Nat) (s : DS) (d : D) : Option DS :=
  match d.o.want s.e with
  | none => none
  | some false => some { s with e := put s.e d.o.d unit }
  | some true => match d.o.i.cls with
    | .calm => match d.o.i.run call s.e s.H with
      | some (v, _) => some { s with e := put s.e d.o.d v }
      | none => none
    | .load => match d.o.i.run call s.e s.H with
      | some (v, _) => match d.o.i.peek s.e with
        | none => some { s with e := put s.e d.o.d v }
        | some p => match peekAt s.H p with
          | some ce => bif chkLd s.hbs p ce d.chk then some { s with e := put s.e d.o.d v, lds := (i, p, ce) :: s.lds } else none
          | none => none
      | none => none
    | .alloc => match d.o.i with
      | .alloc es z => some { s with e := put s.e d.o.d (.pointer (some ⟨s.H.size + s.pend.length, 0, none⟩)), pend := s.pend ++ [⟨z, es, true, some es⟩] }
      | _ => none
    | .act => match d.o.i.run call s.e (pushAll s.H s.pend) with
      | some (v, H') => bif chkAct s.lds H' d.chk then some { s with e := put s.e d.o.d v, H := H', pend := [], hbs := (i, s.H) :: s.hbs } else none
      | none => none
def runDs (call : CallFn) : Nat → List D → DS → Option DS
  | _, [], s => some s
  | i, d :: r, s => match d.run call i s with
    | some s' => runDs call (i + 1) r s'
    | none => none

inductive Out where
  | nrm
  | ex (id : Nat)
  | ret
abbrev Done := Out × Env × Heap
def resOf (e : Env) (H : Heap) : List R → Option (List Value)
  | [] => some []
  | .t n :: r => match look e n, resOf e H r with
    | some v, some vs => some (v :: vs)
    | _, _ => none
  | .c a agg n :: r => match look e a, resOf e H r with
    | some (.pointer (some ⟨b, off, none⟩)), some vs => match H.loadN b off n with
      | some cs => bif agg then some (.agg cs.toArray :: vs) else match cs with
        | [v] => some (v :: vs)
        | _ => none
      | none => none
    | _, _ => none
def resV : List Value → Option Value
  | [v] => some v
  | vs => bif vs.all simpleV then some (.tuple vs.toArray) else none
def finish (res : List R) : Option Done → Option (Value × Heap)
  | some (.nrm, e, H) => match resOf e H res with
    | some rs => (match resV rs with
      | some v => some (v, H)
      | none => none)
    | none => none
  | some (.ret, e, H) => match resOf e H res with
    | some rs => (match resV rs with
      | some v => some (v, H)
      | none => none)
    | none => none
  | _ => none
def enumFrom : Nat → List Value → Env
  | _, [] => []
  | i, v :: r => (i, v) :: enumFrom (i + 1) r

/-- What a function is: code of its own, or a known one. -/
inductive Fun where
  | code (m : MF)
  | known (k : List Value → Heap → Option (Value × Heap))
def callOf (F : Nat → Option Fun) (ex : C → Env → Heap → Option Done) : CallFn := fun f vs H =>
  match F f with
  | none => none
  | some (.known k) => k vs H
  | some (.code m) => bif Nat.beq vs.length m.na then finish m.res (ex m.body (enumFrom 0 vs) H) else none
def exec (F : Nat → Option Fun) : Nat → C → Env → Heap → Option Done
  | 0, _, _, _ => none
  | n + 1, c, e, H => match c with
    | .skip => some (.nrm, e, H)
    | .dead => none
    | .ret => some (.ret, e, H)
    | .exit id => some (.ex id, e, H)
    | .reg ops keep => match runOps (callOf F (exec F n)) ops e H with
      | some (e', H') => some (.nrm, keepOf e' keep, H')
      | none => none
    | .dreg ops keep => match runDs (callOf F (exec F n)) 0 ops ⟨e, H, [], [], []⟩ with
      | some s => some (.nrm, keepOf s.e keep, pushAll s.H s.pend)
      | none => none
    | .seq a b => match exec F n a e H with
      | some (.nrm, e', H') => exec F n b e' H'
      | r => r
    | .cond x a b => match x.ev e with
      | some (.bool true) => exec F n a e H
      | some (.bool false) => exec F n b e H
      | _ => none
    | .blk id c => match exec F n c e H with
      | some (.ex id', e', H') => bif Nat.beq id' id then some (.nrm, e', H') else some (.ex id', e', H')
      | r => r
    | .loop c => match exec F n c e H with
      | some (.nrm, e', H') => exec F n (.loop c) e' H'
      | r => r
/-- A call, with n rounds. -/
def callN (F : Nat → Option Fun) (n : Nat) : CallFn := callOf F (exec F n)

end Go.Proofs.Ytnjmdkecpadehaa.M
