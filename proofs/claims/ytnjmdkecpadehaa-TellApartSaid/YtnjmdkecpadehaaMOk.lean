/- The framework M, third text: the look that holds M's code against the loaded program's operations. Conditions: none; definitions, and what the look says of values and operands. -/
import Derived.Test.YtnjmdkecpadehaaMRel
set_option linter.all false
set_option linter.unusedSimpArgs false
namespace Go.Proofs.Ytnjmdkecpadehaa.M

/-- Two values that hold no address, alike by sight. -/
def plain1 : Value → Value → Bool
  | .int k n, .int k' n' => decide (k = k') && decide (n = n')
  | .bool a, .bool b => decide (a = b)
  | .string a, .string b => decide (a.data.toList = b.data.toList)
  | .pointer none, .pointer none => true
  | .slice none n c, .slice none m d => Nat.beq n 0 && Nat.beq c 0 && Nat.beq m 0 && Nat.beq d 0
  | .nilIface, .nilIface => true
  | .nilFunc, .nilFunc => true
  | _, _ => false
def plains : List Value → List Value → Bool
  | [], [] => true
  | a :: x, b :: y => plain1 a b && plains x y
  | _, _ => false
def plainV (a b : Value) : Bool :=
  match a, b with
  | .agg x, .agg y => plains x.toList y.toList
  | a, b => plain1 a b

theorem plain1_spec {a b : Value} (h : plain1 a b = true) : a = b ∧ ∀ φ, VR0 φ b b := by
  unfold plain1 at h
  split at h
  · simp at h; obtain ⟨rfl, rfl⟩ := h; exact ⟨rfl, fun _ => rfl⟩
  · simp at h; subst h; exact ⟨rfl, fun _ => rfl⟩
  · rename_i x y
    simp only [decide_eq_true_eq] at h
    have : x = y := by
      cases x; cases y
      congr
      exact Array.ext' h
    subst this
    exact ⟨rfl, fun _ => rfl⟩
  · exact ⟨rfl, fun _ => rfl⟩
  · simp only [beq_eq, Bool.and_eq_true, decide_eq_true_eq] at h
    obtain ⟨⟨⟨rfl, rfl⟩, rfl⟩, rfl⟩ := h
    exact ⟨rfl, fun _ => ⟨rfl, rfl, rfl⟩⟩
  · exact ⟨rfl, fun _ => rfl⟩
  · exact ⟨rfl, fun _ => rfl⟩
  · cases h
theorem plains_spec : ∀ {x y : List Value}, plains x y = true → x = y ∧ ∀ φ, LR (VR0 φ) y y
  | [], [], _ => ⟨rfl, fun _ => trivial⟩
  | a :: x, b :: y, h => by
    simp only [plains, Bool.and_eq_true] at h
    obtain ⟨rfl, h1⟩ := plain1_spec h.1
    obtain ⟨rfl, h2⟩ := plains_spec h.2
    exact ⟨rfl, fun φ => ⟨h1 φ, h2 φ⟩⟩
  | [], _ :: _, h => by simp [plains] at h
  | _ :: _, [], h => by simp [plains] at h
theorem plainV_spec {a b : Value} (h : plainV a b = true) : a = b ∧ ∀ φ, VR φ b b := by
  unfold plainV at h
  split at h
  · rename_i x y
    obtain ⟨e, l⟩ := plains_spec h
    have : x = y := Array.ext' e
    subst this
    exact ⟨rfl, fun φ => ⟨_, rfl, l φ⟩⟩
  · obtain ⟨rfl, k⟩ := plain1_spec h
    exact ⟨rfl, fun φ => VR.of_VR0 (k φ)⟩

def okX : Operand → X → Bool
  | .tmp t, .t n => Nat.beq t n
  | .const v, .c u => plainV v u
  | .func f, .f g => Nat.beq f g
  | _, _ => false
def okXs : List Operand → List X → Bool
  | [], [] => true
  | a :: x, b :: y => okX a b && okXs x y
  | _, _ => false

/-- Temps as M knows them are temps as they are. -/
def EnvR (φ : Phi) (e : Env) (tmps : Array Value) : Prop := ∀ t v, look e t = some v → ∃ v', tmps[t]? = some v' ∧ VR φ v v'
theorem EnvR.mono {φ ψ : Phi} (h : Le φ ψ) {e : Env} {tmps : Array Value} (k : EnvR φ e tmps) : EnvR ψ e tmps := fun t v hv => by
  obtain ⟨v', h1, h2⟩ := k t v hv
  exact ⟨v', h1, h2.mono h⟩
theorem okX_ev {φ : Phi} {e : Env} {a : Act} (he : EnvR φ e a.tmps) {x : Operand} {y : X} (h : okX x y = true) {v : Value} (hv : y.ev e = some v) : VR φ v (a.eval x) := by
  unfold okX at h
  split at h
  · rw [beq_eq, decide_eq_true_eq] at h
    subst h
    obtain ⟨v', h1, h2⟩ := he _ _ hv
    simp [Act.eval, Array.getD_eq_getD_getElem?, h1]
    exact h2
  · obtain ⟨rfl, k⟩ := plainV_spec h
    simp [X.ev] at hv
    subst hv
    exact k φ
  · rw [beq_eq, decide_eq_true_eq] at h
    subst h
    simp [X.ev] at hv
    subst hv
    exact ⟨#[], #[], rfl, trivial, trivial⟩
  · cases h
theorem okXs_ev {φ : Phi} {e : Env} {a : Act} (he : EnvR φ e a.tmps) : ∀ {xs : List Operand} {ys : List X}, okXs xs ys = true → ∀ {vs : List Value}, evs e ys = some vs → LR (VR φ) vs (xs.map a.eval)
  | [], [], _, vs, hv => by simp [evs] at hv; subst hv; exact trivial
  | x :: xs, y :: ys, h, vs, hv => by
    simp only [okXs, Bool.and_eq_true] at h
    unfold evs at hv
    split at hv
    · rename_i v us h1 h2
      cases hv
      exact ⟨okX_ev he h.1 h1, okXs_ev he h.2 h2⟩
    · cases hv
  | [], _ :: _, h, _, _ => by simp [okXs] at h
  | _ :: _, [], h, _, _ => by simp [okXs] at h

/-! ### Types -/
def szIs (P : Program) (t n : Nat) : Bool :=
  match P.info? t with
  | some i => Nat.beq i.size n
  | none => false
def byIs (P : Program) (t n : Nat) : Bool :=
  match P.info? t with
  | some i => Nat.beq i.bytes n
  | none => false
def zeroIs (P : Program) (t : Nat) (z : List Value) : Bool :=
  match P.info? t with
  | some i => match i.zero with
    | some v => plains v.cells.toList z
    | none => false
  | none => false
def aggIs (P : Program) (t : Nat) (b : Bool) : Bool :=
  match P.underlying t with
  | some (.struct _) => b
  | some (.array _ _) => b
  | some _ => !b
  | none => false
def sliceOf (P : Program) (t : Nat) : Option Nat :=
  match P.underlying t with
  | some (.slice e) => some e
  | _ => none
def isInt (P : Program) (t : Nat) : Bool :=
  match P.underlying t with
  | some (.int _) => true
  | _ => false
def isKind (P : Program) (t : Nat) (k : IntKind) : Bool :=
  match P.underlying t with
  | some (.int k') => decide (k = k')
  | _ => false
def isStr (P : Program) (t : Nat) : Bool :=
  match P.underlying t with
  | some .string => true
  | _ => false
def isBool (P : Program) (t : Nat) : Bool :=
  match P.underlying t with
  | some .bool => true
  | _ => false
def isPtr (P : Program) (t : Nat) : Bool :=
  match P.underlying t with
  | some (.pointer e) => match P.info? e with
    | some _ => true
    | none => false
  | _ => false
theorem isPtr_spec2 {P : Program} {t : Nat} (h : isPtr P t = true) : ∃ el i, P.underlying t = some (.pointer el) ∧ P.info? el = some i := by
  unfold isPtr at h
  split at h
  · rename_i e he
    split at h
    · rename_i i hi; exact ⟨e, i, he, hi⟩
    · cases h
  · cases h
def ptrTo (P : Program) (t : Nat) : Option Nat :=
  match P.underlying t with
  | some (.pointer e) => some e
  | _ => none
def isUnsafe (P : Program) (t : Nat) : Bool :=
  match P.underlying t with
  | some .unsafePointer => true
  | _ => false
theorem ptrTo_spec {P : Program} {t e : Nat} (h : ptrTo P t = some e) : P.underlying t = some (.pointer e) := by
  unfold ptrTo at h
  split at h <;> cases h
  assumption
theorem isUnsafe_spec {P : Program} {t : Nat} (h : isUnsafe P t = true) : P.underlying t = some .unsafePointer := by
  unfold isUnsafe at h
  split at h <;> cases h
  assumption
def isSome' {α : Type} : Option α → Bool
  | some _ => true
  | none => false
def notIface (P : Program) (t : Nat) : Bool :=
  match P.underlying t with
  | some (.interface _) => false
  | some _ => true
  | none => false
/-- Fields one behind the other whose leaves are whole numbers, bools, strings: what kinds of cells. -/
def flatFs (P : Program) (rec : TypeId → Option (List Nat)) : List Field → Nat → Option (List Nat)
  | [], _ => some []
  | f :: r, off => if f.name = "_" then none else if f.offset = off then match rec f.type with
    | some ks => bif szIs P f.type ks.length && Nat.blt 0 ks.length then (match flatFs P rec r (off + ks.length) with
      | some l => some (ks ++ l)
      | none => none) else none
    | none => none
    else none
def flatT (P : Program) : Nat → TypeId → Option (List Nat)
  | 0, _ => none
  | d + 1, t => match P.underlying t with
    | some (.int _) => some [0]
    | some .bool => some [1]
    | some .string => some [2]
    | some (.struct fs) => bif P.stoodInHeld t then none else flatFs P (flatT P d) fs.toList 0
    | _ => none
def okFlat (P : Program) (t : TypeId) (ks : List Nat) : Bool :=
  match flatT P 20 t with
  | some l => decide (l = ks)
  | none => false
def fieldAtIs (P : Program) (s f off : Nat) : Bool :=
  match P.underlying s with
  | some (.struct fs) => match fs[f]? with
    | some fd => Nat.beq fd.offset off && (match P.info? fd.type with
      | some i => !Nat.beq i.size 0
      | none => false)
    | none => false
  | _ => false
def fieldIs (P : Program) (s f : Nat) (agg : Bool) (off n : Nat) : Bool :=
  match P.underlying s with
  | some (.struct fs) => match fs[f]? with
    | some fd => Nat.beq fd.offset off && szIs P fd.type n && aggIs P fd.type agg
    | none => false
  | _ => false
def okParts (P : Program) (fs : Array Field) : List (Nat × Operand) → List (Nat × Nat × X) → Bool
  | [], [] => true
  | (i, x) :: r, (off, n, y) :: s => (match fs[i]? with
    | some fd => Nat.beq fd.offset off && szIs P fd.type n
    | none => false) && okX x y && okParts P fs r s
  | _, _ => false
def okParts2 : List (Nat × Operand) → List (Nat × X) → Bool
  | [], [] => true
  | (i, x) :: r, (j, y) :: s => Nat.beq i j && okX x y && okParts2 r s
  | _, _ => false
def okO : Option Operand → Option X → Bool
  | none, none => true
  | some x, some y => okX x y
  | _, _ => false
def infoB (P : Program) (t es bytes : Nat) : Bool :=
  match P.info? t with
  | some i => Nat.beq i.size es && Nat.beq i.bytes bytes && Nat.blt 0 es && Nat.blt 0 bytes && (match i.zero with
    | some z => Nat.beq z.cells.size es
    | none => false)
  | none => false
def structOf (P : Program) (t : Nat) : Option (Array Field) :=
  match P.underlying t with
  | some (.struct fs) => some fs
  | _ => none
/-- Does an operation of M say what the program's says? -/
def okOp (P : Program) (o : Op) : I → Bool
  | .mov y => match o with
    | .move x => okX x y
    | .assign x => okX x y
    | _ => false
  | .pick c a b => match o with
    | .pick c' a' b' => okX c' c && okX a' a && okX b' b
    | _ => false
  | .alloc es z => match o with
    | .alloc t => Nat.beq t es && zeroIs P t z
    | _ => false
  | .box n y => match o with
    | .box t x => okX x y
    | _ => false
  | .build z ps => match o with
    | .build t parts => zeroIs P t z && (match structOf P t with
      | some fs => (fs.toList.all fun f => isSome' (P.info? f.type)) && okParts P fs parts.toList ps
      | none => false)
    | _ => false
  | .bsl es z m ps => match o with
    | .buildSlice t n parts => Nat.beq n m && Nat.ble (m * es) 16777216 && Nat.blt 0 es && (match sliceOf P t with
      | some el => szIs P el es && zeroIs P el z && Nat.beq z.length es && okParts2 parts.toList ps
      | none => false)
    | _ => false
  | .load agg n y => match o with
    | .load t x => okX x y && aggIs P t agg && szIs P t n && (agg || Nat.beq n 1)
    | _ => false
  | .store n y z => match o with
    | .store t a x => okX a y && okX x z && szIs P t n
    | _ => false
  | .nilck y => match o with
    | .nilCheck x => okX x y
    | _ => false
  | .bin op y z => match o with
    | .binOp op' t x u _ => decide (op = op') && okX x y && okX u z
    | _ => false
  | .eqb neq y z => match o with
    | .binOp op t x u _ => decide (op = if neq then .neq else .eql) && isBool P t && okX x y && okX u z
    | _ => false
  | .eqs neq ks y z => match o with
    | .binOp op t x u _ => decide (op = if neq then .neq else .eql) && isSome' (structOf P t) && okFlat P t ks && !(P.eqGuardType P.depth t) && okX x y && okX u z
    | _ => false
  | .eqp neq y z => match o with
    | .binOp op t x u _ => decide (op = if neq then .neq else .eql) && isPtr P t && okX x y && okX u z
    | _ => false
  | .un op y => match o with
    | .unOp op' t x => decide (op = op') && okX x y
    | _ => false
  | .conv k y => match o with
    | .convert s d x => isSome' (P.underlying s) && isKind P d k && okX x y
    | _ => false
  | .s2b y => match o with
    | .convert s d x => isStr P s && (match sliceOf P d with
      | some e => isKind P e .u8
      | none => false) && okX x y
    | _ => false
  | .b2s y => match o with
    | .convert s d x => isStr P d && (match sliceOf P s with
      | some e => isKind P e .u8
      | none => false) && okX x y
    | _ => false
  | .mki t y => match o with
    | .makeInterface t' x => Nat.beq t t' && notIface P t && okX x y
    | _ => false
  | .mkf f cs => match o with
    | .makeFunc (.func g) first cap => Nat.beq f g && first.isEmpty && okXs cap.toList cs
    | _ => false
  | .mks es z bytes l c => match o with
    | .makeSlice t x y => (match sliceOf P t with
      | some el => infoB P el es bytes && zeroIs P el z
      | none => false) && okX x l && okX y c
    | _ => false
  | .slc es y lo hi top => match o with
    | .slice t x l h m => (match sliceOf P t with
      | some el => szIs P el es && Nat.blt 0 es
      | none => false) && okX x y && okO l lo && okO h hi && okO m top && (m.isNone || h.isSome)
    | _ => false
  | .sls y lo hi => match o with
    | .slice t x l h none => isStr P t && okX x y && okO l lo && okO h hi
    | _ => false
  | .fa off y => match o with
    | .fieldAddr s x f => fieldAtIs P s f off && okX x y
    | _ => false
  | .fld agg off n y => match o with
    | .field s x f => fieldIs P s f agg off n && okX x y
    | _ => false
  | .ia es y i => match o with
    | .indexAddr t x j => (match sliceOf P t with
      | some el => szIs P el es
      | none => false) && okX x y && okX j i
    | _ => false
  | .idx y i => match o with
    | .index t x j => isStr P t && okX x y && okX j i
    | _ => false
  | .ext y k => match o with
    | .extract x k' => Nat.beq k k' && okX x y
    | _ => false
  | .len y => match o with
    | .call { callee := .builtin .len, args := as, argTypes := ts } => (match as.toList, ts.toList with
      | [x], [t] => isSome' (sliceOf P t) && okX x y
      | _, _ => false)
    | _ => false
  | .lens y => match o with
    | .call { callee := .builtin .len, args := as, argTypes := ts } => (match as.toList, ts.toList with
      | [x], [t] => isStr P t && okX x y
      | _, _ => false)
    | _ => false
  | .app ty es bytes y z => match o with
    | .call { callee := .builtin .append, args := as, argTypes := ts } => (match as.toList, ts.toList with
      | [x, u], [t, t'] => (match sliceOf P t with
        | some el => Nat.beq el ty && infoB P el es bytes
        | none => false) && (isSome' (sliceOf P t') || isStr P t') && okX x y && okX u z
      | _, _ => false)
    | _ => false
  | .clr es z y => match o with
    | .call { callee := .builtin .clear, args := as, argTypes := ts } => (match as.toList, ts.toList with
      | [x], [t] => (match sliceOf P t with
        | some el => zeroIs P el z
        | none => false) && okX x y
      | _, _ => false)
    | _ => false
  | .mn ys => match o with
    | .call { callee := .builtin .min, args := as, argTypes := _ } => okXs as.toList ys
    | _ => false
  | .mx ys => match o with
    | .call { callee := .builtin .max, args := as, argTypes := _ } => okXs as.toList ys
    | _ => false
  | .call f ys => match o with
    | .call { callee := .value (.func g), args := as, argTypes := _ } => Nat.beq f g && okXs as.toList ys
    | _ => false
  | .callv fx ys => match o with
    | .call { callee := .value x, args := as, argTypes := _ } => okX x fx && okXs as.toList ys
    | _ => false
  | .p2u y => match o with
    | .convert s d x => (match ptrTo P s with
      | some t => (match P.info? t with
        | some i => !Nat.beq i.size 0
        | none => false)
      | none => false) && isUnsafe P d && okX x y
    | _ => false
  | .u2p ty n y => match o with
    | .convert s d x => isUnsafe P s && (match ptrTo P d with
      | some u => Nat.beq u ty && Nat.beq (P.cellsOf u) n && Nat.blt 0 n && szIs P u n && Nat.blt 0 P.depth
      | none => false) && okX x y
    | _ => false
  | .noesc f y => match o with
    | .call { callee := .value (.func g), args := as, argTypes := _ } => Nat.beq f g && (match P.funcs[g]? with
      | some fn => fn.body.isNone && decide (fn.name = "internal/abi.NoEscape") && decide (fn.origin = "")
      | none => false) && okXs as.toList [y]
    | _ => false
  | .usd y => match o with
    | .call { callee := .builtin .unsafeSliceData, args := as, argTypes := _ } => okXs as.toList [y]
    | _ => false
  | .uss ty y z => match o with
    | .call { callee := .builtin .unsafeString, args := as, argTypes := ts } => (match ts[0]? with
      | some pt => (match ptrTo P pt with
        | some u => Nat.beq u ty && Nat.beq (P.cellsOf u) 1 && Nat.blt 0 P.depth
        | none => false)
      | none => false) && okXs as.toList [y, z]
    | _ => false

end Go.Proofs.Ytnjmdkecpadehaa.M
