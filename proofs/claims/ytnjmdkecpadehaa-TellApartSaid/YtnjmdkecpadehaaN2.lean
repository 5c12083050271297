/- The framework N, second text: what an operation makes of values that bear data. Conditions: none; definitions. -/
import Derived.Test.YtnjmdkecpadehaaN1
set_option linter.all false
set_option linter.unusedSimpArgs false
namespace Go.Proofs.Ytnjmdkecpadehaa.M

/-! ### Operands -/
def nvC0 : Value → Option NV
  | .int k n => some (.v (.int k n))
  | .bool b => some (.v (.bool b))
  | .string s => some (.v (.string s))
  | .nilIface => some (.v .nilIface)
  | .nilFunc => some (.v .nilFunc)
  | .pointer none => some (.v (.pointer none))
  | .slice none 0 0 => some .nils
  | _ => none
def nvCs : List Value → Option (List NV)
  | [] => some []
  | v :: r => match nvC0 v, nvCs r with
    | some x, some l => some (x :: l)
    | _, _ => none
def nvC : Value → Option NV
  | .agg cs => match nvCs cs.toList with
    | some l => some (.agg l)
    | none => none
  | v => nvC0 v
def nev (e : NEnv) : X → Option NV
  | .t n => nlook e n
  | .c v => nvC v
  | .f n => some (.fn n [])
def nevs (e : NEnv) : List X → Option (List NV)
  | [] => some []
  | x :: r => match nev e x, nevs e r with
    | some v, some vs => some (v :: vs)
    | _, _ => none
def nevp (e : NEnv) : List (Nat × Nat × X) → Option (List (Nat × Nat × NV))
  | [] => some []
  | (o, n, x) :: r => match nev e x, nevp e r with
    | some v, some vs => some ((o, n, v) :: vs)
    | _, _ => none
def nevq (e : NEnv) : List (Nat × X) → Option (List (Nat × NV))
  | [] => some []
  | (o, x) :: r => match nev e x, nevq e r with
    | some v, some vs => some ((o, v) :: vs)
    | _, _ => none
def nevo (e : NEnv) : Option X → Option (Option NV)
  | none => some none
  | some x => match nev e x with
    | some v => some (some v)
    | none => none

/-! ### Values -/
abbrev NRes := Option (NV × NHeap)
def unitN : NV := .tup []
def ncells : NV → Option (List NV)
  | .agg cs => some cs
  | .tup _ => none
  | .fn _ _ => none
  | x => some [x]
def nsplice {α : Type} (xs : List α) (off : Nat) (vs : List α) : List α := xs.take off ++ vs ++ xs.drop (off + vs.length)
def nfill : List (Nat × Nat × NV) → List NV → Option (List NV)
  | [], cells => some cells
  | (off, size, v) :: r, cells => match ncells v with
    | some cs => if cs.length = size ∧ off + size ≤ cells.length then nfill r (nsplice cells off cs) else none
    | none => none
def nfillE (es : Nat) : List (Nat × NV) → List (List NV) → Option (List (List NV))
  | [], els => some els
  | (i, v) :: r, els => match ncells v with
    | some cs => if cs.length = es ∧ i < els.length then nfillE es r (els.set i cs) else none
    | none => none
def nout (h : NHeap) (agg : Bool) (n : Nat) (cs : List NV) : NRes :=
  if cs.length = n then (match agg, cs with
    | true, cs => some (.agg cs, h)
    | false, [v] => some (v, h)
    | false, _ => none) else none
def nmov (h : NHeap) (x : NV) : NRes := some (x, h)
def npick (h : NHeap) : NV → NV → NV → NRes
  | .v (.bool p), .v (.bool a), .v (.bool b) => some (.v (.bool (bif p then a else b)), h)
  | .v (.bool true), a, _ => some (a, h)
  | .v (.bool false), _, b => some (b, h)
  | _, _, _ => none
def nalloc (h : NHeap) (es : Nat) : Option (List NV) → NRes
  | some z => some (.ptr h.nx 0 0, h.push ⟨[z], z.length, es, true, some es⟩)
  | none => none
def nboxC (h : NHeap) (n : Nat) : Option (List NV) → NRes
  | some cs => if cs.length = n then some (.ptr h.nx 0 0, h.push ⟨[cs], n, n, true, none⟩) else none
  | none => none
def nbox (h : NHeap) (n : Nat) (x : NV) : NRes := nboxC h n (ncells x)
def nbuildF (h : NHeap) : Option (List NV) → NRes
  | some cs => some (.agg cs, h)
  | none => none
def nbuild (h : NHeap) : Option (List NV) → Option (List (Nat × Nat × NV)) → NRes
  | some z, some ps => nbuildF h (nfill ps z)
  | _, _ => none
def nbslF (h : NHeap) (es m : Nat) : Option (List (List NV)) → NRes
  | some els => some (.sl h.nx 0 m m, h.push ⟨els, es, es, true, none⟩)
  | none => none
def nbsl (h : NHeap) (es m : Nat) : Option (List NV) → Option (List (Nat × NV)) → NRes
  | some z, some ps => if z.length = es then nbslF h es m (nfillE es ps (List.replicate m z)) else none
  | _, _ => none
def nelO (h : NHeap) (agg : Bool) (n o : Nat) : Option (List NV) → NRes
  | some el => nout h agg n ((el.drop o).take n)
  | none => none
def nelR (h : NHeap) (agg : Bool) (n i o : Nat) : Option NRow → NRes
  | some row => nelO h agg n o row.els[i]?
  | none => none
def nelF (h : NHeap) (agg : Bool) (n o : Nat) (s : Sh) : Option (Dat s) → NRes
  | some x => nout h agg n (((cellsN s x).drop o).take n)
  | none => none
def nload (h : NHeap) (agg : Bool) (n : Nat) : NV → NRes
  | .ptr r i o => nelR h agg n i o (h.get r)
  | .fptr s l i o => nelF h agg n o s l[i]?
  | _ => none
def nstEl (h : NHeap) (r i o : Nat) (row : NRow) (cs : List NV) : Option (List NV) → NRes
  | some el => if o + cs.length ≤ el.length then some (unitN, h.set r { row with els := row.els.set i (nsplice el o cs) }) else none
  | none => none
def nstRow (h : NHeap) (r i o n : Nat) : Option NRow → Option (List NV) → NRes
  | some row, some cs => if cs.length = n ∧ row.own = true then nstEl h r i o row cs row.els[i]? else none
  | _, _ => none
def nstore (h : NHeap) (n : Nat) : NV → NV → NRes
  | .ptr r i o, x => nstRow h r i o n (h.get r) (ncells x)
  | _, _ => none
def nnilck (h : NHeap) : NV → NRes
  | .ptr r i o => some (.ptr r i o, h)
  | .fptr s l i o => some (.fptr s l i o, h)
  | _ => none
def nwith (h : NHeap) : Option Value → NRes
  | some v => some (.v v, h)
  | none => none
def nbin (h : NHeap) (o : BinOp) : NV → NV → NRes
  | .v a, .v b => nwith h (binV o a b)
  | _, _ => none
def neqb (h : NHeap) (q : Bool) : NV → NV → NRes
  | .v (.bool a), .v (.bool b) => some (.v (.bool (bif q then !(a == b) else a == b)), h)
  | _, _ => none
def neqC (k : Nat) : NV → NV → Option Bool
  | .v a, .v b => eqCell k a b
  | _, _ => none
def neqCs : List Nat → List NV → List NV → Option Bool
  | [], [], [] => some true
  | k :: ks, a :: x, b :: y => match neqC k a b, neqCs ks x y with
    | some p, some q => some (p && q)
    | _, _ => none
  | _, _, _ => none
def neqsB (h : NHeap) (q : Bool) : Option Bool → NRes
  | some r => some (.v (.bool (bif q then !r else r)), h)
  | none => none
def neqs (h : NHeap) (q : Bool) (ks : List Nat) : NV → NV → NRes
  | .agg a, .agg b => neqsB h q (neqCs ks a b)
  | _, _ => none
def neqp (h : NHeap) (q : Bool) : NV → NV → NRes
  | .ptr r i o, .v (.pointer none) => some (.v (.bool q), h)
  | .fptr s l i o, .v (.pointer none) => some (.v (.bool q), h)
  | .v (.pointer none), .v (.pointer none) => some (.v (.bool !q), h)
  | .ptr r i o, .ptr r' i' o' => if r = r' ∧ i = i' ∧ o = o' then some (.v (.bool !q), h) else none
  | _, _ => none
def nun (h : NHeap) (o : UnOp) : NV → NRes
  | .v a => nwith h (unV o a)
  | _ => none
def nconv (h : NHeap) (k : IntKind) : NV → NRes
  | .v (.int _ n) => some (.v (.int k (k.wrap n)), h)
  | _ => none
def bytesN (s : ByteArray) : List (List NV) := s.data.toList.map fun b => [.v (.int .u8 b.toNat)]
def ns2b (h : NHeap) : NV → NRes
  | .v (.string s) => some (.sl h.nx 0 s.size s.size, h.push ⟨bytesN s, 1, 1, false, none⟩)
  | _ => none
def nstr : List (List NV) → Option (List UInt8)
  | [] => some []
  | [.v (.int .u8 n)] :: r => match nstr r with
    | some l => some (UInt8.ofNat n.toNat :: l)
    | none => none
  | _ => none
def nstrS (h : NHeap) : Option (List UInt8) → NRes
  | some l => some (.v (.string ⟨l.toArray⟩), h)
  | none => none
def nb2sR (h : NHeap) (i n : Nat) : Option NRow → NRes
  | some row => if row.w = 1 ∧ i + n ≤ row.els.length then nstrS h (nstr ((row.els.drop i).take n)) else none
  | none => none
def nb2s (h : NHeap) : NV → NRes
  | .nils => some (.v (.string ByteArray.empty), h)
  | .emp _ => some (.v (.string ByteArray.empty), h)
  | .sl r i n _ => nb2sR h i n (h.get r)
  | .fsl (.int .u8) l => some (.v (.string ⟨(List.map (fun (n : Int) => UInt8.ofNat n.toNat) l).toArray⟩), h)
  | _ => none
def nmki (h : NHeap) (t : Nat) : NV → NRes
  | .v (.int k n) => some (.v (.iface t (.int k n)), h)
  | _ => none
def isFlat1 : NV → Bool
  | .tup _ => false
  | .fn _ _ => false
  | _ => true
def nmkf (h : NHeap) (f : Nat) : Option (List NV) → NRes
  | some vs => if vs.all isFlat1 = true then some (.fn f vs, h) else none
  | none => none
def nmks (h : NHeap) (es bytes : Nat) : Option (List NV) → NV → NV → NRes
  | some z, .v (.int .i64 n), .v (.int .i64 m) => if z.length = es ∧ 0 ≤ n ∧ n ≤ m ∧ m * bytes ≤ 281474976710656 ∧ m ≤ 9223372036854775807 then
      some (.sl h.nx 0 n.toNat m.toNat, h.push ⟨List.replicate m.toNat z, es, es, true, none⟩) else none
  | _, _, _ => none
def nbound : Option NV → Nat → Nat → Option Nat
  | none, _, d => some d
  | some (.v (.int _ i)), y, _ => if 0 ≤ i ∧ i ≤ y then some i.toNat else none
  | _, _, _ => none
def nslcS (h : NHeap) (es r i n c : Nat) (row : Option NRow) : Option Nat → Option Nat → Option Nat → NRes
  | some lo, some hi, some m => if c = 0 then some (.sl r i 0 0, h) else match row with
    | some row => if row.es = es ∧ row.w = es then some (.sl r (i + lo) (hi - lo) (m - lo), h) else none
    | none => none
  | _, _, _ => none
/-- Bounds of a slice, one behind the other. -/
def nbnd (lo hi top : Option NV) (n c : Nat) : Option (Nat × Nat × Nat) :=
  match nbound top c c with
  | none => none
  | some m => match nbound hi m n with
    | none => none
    | some h => match nbound lo h 0 with
      | none => none
      | some l => some (l, h, m)
def nslB (h : NHeap) (es r i c : Nat) (row : Option NRow) : Option (Nat × Nat × Nat) → NRes
  | some (lo, hi, m) => if c = 0 then some (.sl r i 0 0, h) else match row with
    | some row => if row.es = es ∧ row.w = es then some (.sl r (i + lo) (hi - lo) (m - lo), h) else none
    | none => none
  | none => none
/-- Bounds of a slice whose room is not told. -/
def nbndF (lo hi top : Option NV) (n : Nat) : Option (Nat × Nat × Option Nat) :=
  match top with
  | none => match nbound hi n n with
    | none => none
    | some h => match nbound lo h 0 with
      | none => none
      | some l => some (l, h, none)
  | some t => match nbound (some t) n n with
    | none => none
    | some m => match nbound hi m n with
      | none => none
      | some h => match nbound lo h 0 with
        | none => none
        | some l => some (l, h, some m)
def nfslB (h : NHeap) (s : Sh) (l : List (Dat s)) : Option (Nat × Nat × Option Nat) → NRes
  | some (lo, hi, none) => some (.fsl s ((l.take hi).drop lo), h)
  | some (lo, hi, some m) => if hi ≤ m then (if m = 0 ∧ l ≠ [] ∧ 0 < s.width then some (.emp s.width, h) else some (.fsl s ((l.take hi).drop lo), h)) else none
  | none => none
def nempB (h : NHeap) (x : NV) : Option (Nat × Nat × Nat) → NRes
  | some _ => some (x, h)
  | none => none
def nslc (h : NHeap) (es : Nat) : Option NV → Option (Option NV) → Option (Option NV) → Option (Option NV) → NRes
  | some (.sl r i n c), some lo, some hi, some top => nslB h es r i c (h.get r) (nbnd lo hi top n c)
  | some (.fsl s l), some lo, some hi, some top => if s.width = es then nfslB h s l (nbndF lo hi top (List.length l)) else none
  | some .nils, some lo, some hi, some top => nempB h .nils (nbnd lo hi top 0 0)
  | some (.emp w), some lo, some hi, some top => nempB h (.emp w) (nbnd lo hi top 0 0)
  | _, _, _, _ => none
def nslsB (h : NHeap) (s : ByteArray) : Option (Nat × Nat × Nat) → NRes
  | some (l, hi, _) => some (.v (.string (s.extract l hi)), h)
  | none => none
def nsls (h : NHeap) : Option NV → Option (Option NV) → Option (Option NV) → NRes
  | some (.v (.string s)), some lo, some hi => nslsB h s (nbnd lo hi none s.size s.size)
  | _, _, _ => none
def nfa (h : NHeap) (off : Nat) : NV → NRes
  | .ptr r i o => some (.ptr r i (o + off), h)
  | .fptr s l i o => some (.fptr s l i (o + off), h)
  | _ => none
def nfldO (h : NHeap) : Option NV → NRes
  | some v => some (v, h)
  | none => none
def nfld (h : NHeap) (agg : Bool) (off n : Nat) : NV → NRes
  | .agg cs => match agg with
    | true => if ((cs.drop off).take n).length = n then some (.agg ((cs.drop off).take n), h) else none
    | false => nfldO h cs[off]?
  | _ => none
def niaR (h : NHeap) (es r i n : Nat) (j : Int) : Option NRow → NRes
  | some row => if row.w = es ∧ 0 ≤ j ∧ j < n then some (.ptr r (i + j.toNat) 0, h) else none
  | none => none
def nia (h : NHeap) (es : Nat) : NV → NV → NRes
  | .sl r i n c, .v (.int _ j) => niaR h es r i n j (h.get r)
  | .fsl s l, .v (.int _ j) => if s.width = es ∧ 0 ≤ j ∧ j < (List.length l : Nat) then some (.fptr s l j.toNat 0, h) else none
  | _, _ => none
def nidx (h : NHeap) : NV → NV → NRes
  | .v (.string s), .v (.int _ j) => if 0 ≤ j then (match s.data.toList[j.toNat]? with
    | some b => some (.v (.int .u8 b.toNat), h)
    | none => none) else none
  | _, _ => none
def nextV (h : NHeap) (k : Nat) : NV → NRes
  | .tup vs => nfldO h vs[k]?
  | _ => none
def nlen (h : NHeap) : NV → NRes
  | .nils => some (.v (.int .i64 0), h)
  | .emp _ => some (.v (.int .i64 0), h)
  | .sl _ _ n _ => some (.v (.int .i64 n), h)
  | .fsl s l => some (.v (.int .i64 (List.length l)), h)
  | _ => none
def nlens (h : NHeap) : NV → NRes
  | .v (.string s) => some (.v (.int .i64 s.size), h)
  | _ => none
/-- Elements of a row that tell data. -/
def elsN (s : Sh) (l : List (Dat s)) : List (List NV) := l.map (cellsN s)
/-- What append takes from its second argument. -/
def nnewR (es i n : Nat) : Option NRow → Option (List (List NV))
  | some row => if row.w = es ∧ i + n ≤ row.els.length then some ((row.els.drop i).take n) else none
  | none => none
def nnew (h : NHeap) (es : Nat) : NV → Option (List (List NV))
  | .nils => some []
  | .emp _ => some []
  | .sl r i n _ => nnewR es i n (h.get r)
  | .fsl s l => if s.width = es then some (elsN s l) else none
  | .v (.string s) => if es = 1 then some (bytesN s) else none
  | _ => none
def nappR (ty es bytes : Nat) (h : NHeap) (r i n c : Nat) (els : List (List NV)) : Option NRow → NRes
  | some row =>
    if 0 < es ∧ row.w = es ∧ row.es = es ∧ row.own = true ∧ i + c ≤ row.els.length ∧ n ≤ c then
      (if n + els.length ≤ c then some (.sl r i (n + els.length) c, h.set r { row with els := nsplice row.els (i + n) els })
       else if (n + els.length) * bytes ≤ room then
        (if i + c < row.els.length then some (.sl h.nx 0 (n + els.length) (n + els.length), h.push ⟨(row.els.drop i).take n ++ els, es, es, true, keepTy ty (i * es) row.ty⟩)
         else some (.sl h.nx 0 (n + els.length) (n + els.length), (h.del r).push ⟨(row.els.drop i).take n ++ els, es, es, true, keepTy ty (i * es) row.ty⟩))
       else none)
    else none
  | none => none
def nappN (ty es bytes : Nat) (h : NHeap) (els : List (List NV)) : NV → NRes
  | .nils => if els.length * bytes ≤ room then some (.sl h.nx 0 els.length els.length, h.push ⟨els, es, es, true, some ty⟩) else none
  | .emp w => if w = es ∧ els.length * bytes ≤ room then some (.sl h.nx 0 els.length els.length, h.push ⟨els, es, es, true, none⟩) else none
  | .sl r i n c => nappR ty es bytes h r i n c els (h.get r)
  | _ => none
def isSl : NV → Bool
  | .nils => true
  | .emp _ => true
  | .sl _ _ _ _ => true
  | .fsl _ _ => true
  | _ => false
def nappE (ty es bytes : Nat) (h : NHeap) (s : NV) : Option (List (List NV)) → NRes
  | some els => if els.length = 0 then (if isSl s = true then some (s, h) else none) else nappN ty es bytes h els s
  | none => none
def napp (ty es bytes : Nat) (h : NHeap) (s x : NV) : NRes := nappE ty es bytes h s (nnew h es x)
def nclrR (h : NHeap) (es r i n : Nat) (z : List NV) : Option NRow → NRes
  | some row => if row.own = true ∧ row.w = es ∧ i + n ≤ row.els.length ∧ z.length = es then some (unitN, h.set r { row with els := nsplice row.els i (List.replicate n z) }) else none
  | none => none
def nclr (h : NHeap) (es : Nat) : Option (List NV) → NV → NRes
  | some z, .nils => some (unitN, h)
  | some z, .emp _ => some (unitN, h)
  | some z, .sl r i n _ => if n = 0 then some (unitN, h) else nclrR h es r i n z (h.get r)
  | _, _ => none
def nvals : List NV → Option (List Value)
  | [] => some []
  | .v x :: r => match nvals r with
    | some l => some (x :: l)
    | none => none
  | _ => none
def nmnV (h : NHeap) : Option (List Value) → NRes
  | some (.int k a :: r) => nwith h (minL k a r)
  | _ => none
def nmxV (h : NHeap) : Option (List Value) → NRes
  | some (.int k a :: r) => nwith h (maxL k a r)
  | _ => none
def nmnL (h : NHeap) : Option (List NV) → NRes
  | some l => nmnV h (nvals l)
  | none => none
def nmxL (h : NHeap) : Option (List NV) → NRes
  | some l => nmxV h (nvals l)
  | none => none
def np2uR (h : NHeap) (r i o : Nat) : Option NRow → NRes
  | some row => if row.own = true ∧ i < row.els.length ∧ o < row.w then some (.ptr r i o, h) else none
  | none => none
def np2u (h : NHeap) : NV → NRes
  | .v (.pointer none) => some (.v (.pointer none), h)
  | .ptr r i o => np2uR h r i o (h.get r)
  | _ => none
def nu2pR (h : NHeap) (ty n r : Nat) : Option NRow → NRes
  | some row => if row.own = true ∧ n ≤ row.w ∧ 0 < row.els.length ∧ row.ty = some ty then some (.ptr r 0 0, h) else none
  | none => none
def nu2p (h : NHeap) (ty n : Nat) : NV → NRes
  | .v (.pointer none) => some (.v (.pointer none), h)
  | .ptr r 0 0 => nu2pR h ty n r (h.get r)
  | _ => none
def nnoesc (h : NHeap) : NV → NRes
  | .v (.pointer none) => some (.v (.pointer none), h)
  | .ptr r i o => some (.ptr r i o, h)
  | _ => none
def nusd (h : NHeap) : NV → NRes
  | .nils => some (.v (.pointer none), h)
  | .sl r i _ c => if 0 < c then some (.ptr r i 0, h) else none
  | _ => none
def nussR (h : NHeap) (ty r i : Nat) (m : Int) : Option NRow → NRes
  | some row => if 0 < m ∧ m ≤ 9223372036854775807 ∧ row.own = true ∧ row.ty = some ty ∧ row.w = 1 ∧ i + m.toNat ≤ row.els.length then nstrS (h.del r) (nstr ((row.els.drop i).take m.toNat)) else none
  | none => none
def nuss (h : NHeap) (ty : Nat) : NV → NV → NRes
  | .v (.pointer none), .v (.int .i64 m) => if m = 0 then some (.v (.string ByteArray.empty), h) else none
  | .ptr r i 0, .v (.int .i64 m) => nussR h ty r i m (h.get r)
  | _, _ => none
def nap1 (f : NV → NRes) : Option NV → NRes
  | some v => f v
  | none => none
def nap2 (f : NV → NV → NRes) : Option NV → Option NV → NRes
  | some v, some u => f v u
  | _, _ => none
def nap3 (f : NV → NV → NV → NRes) : Option NV → Option NV → Option NV → NRes
  | some v, some u, some t => f v u t
  | _, _, _ => none
/-- An operation that calls nothing. -/
def nrun (e : NEnv) (h : NHeap) : I → NRes
  | .mov x => nap1 (nmov h) (nev e x)
  | .pick c a b => nap3 (npick h) (nev e c) (nev e a) (nev e b)
  | .alloc es z => nalloc h es (nvCs z)
  | .box n x => nap1 (nbox h n) (nev e x)
  | .build z ps => nbuild h (nvCs z) (nevp e ps)
  | .bsl es z m ps => nbsl h es m (nvCs z) (nevq e ps)
  | .load agg n a => nap1 (nload h agg n) (nev e a)
  | .store n a x => nap2 (nstore h n) (nev e a) (nev e x)
  | .nilck x => nap1 (nnilck h) (nev e x)
  | .bin o x y => nap2 (nbin h o) (nev e x) (nev e y)
  | .eqb q x y => nap2 (neqb h q) (nev e x) (nev e y)
  | .eqs q ks x y => nap2 (neqs h q ks) (nev e x) (nev e y)
  | .eqp q x y => nap2 (neqp h q) (nev e x) (nev e y)
  | .un o x => nap1 (nun h o) (nev e x)
  | .conv k x => nap1 (nconv h k) (nev e x)
  | .s2b x => nap1 (ns2b h) (nev e x)
  | .b2s x => nap1 (nb2s h) (nev e x)
  | .mki t x => nap1 (nmki h t) (nev e x)
  | .mkf f cs => nmkf h f (nevs e cs)
  | .mks es z bytes l c => nap2 (nmks h es bytes (nvCs z)) (nev e l) (nev e c)
  | .slc es x lo hi top => nslc h es (nev e x) (nevo e lo) (nevo e hi) (nevo e top)
  | .sls x lo hi => nsls h (nev e x) (nevo e lo) (nevo e hi)
  | .fa off a => nap1 (nfa h off) (nev e a)
  | .fld agg off n x => nap1 (nfld h agg off n) (nev e x)
  | .ia es x i => nap2 (nia h es) (nev e x) (nev e i)
  | .idx x i => nap2 (nidx h) (nev e x) (nev e i)
  | .ext x k => nap1 (nextV h k) (nev e x)
  | .len x => nap1 (nlen h) (nev e x)
  | .lens x => nap1 (nlens h) (nev e x)
  | .app ty es bytes s x => nap2 (napp ty es bytes h) (nev e s) (nev e x)
  | .clr es z x => nap1 (nclr h es (nvCs z)) (nev e x)
  | .mn xs => nmnL h (nevs e xs)
  | .mx xs => nmxL h (nevs e xs)
  | .call _ _ => none
  | .callv _ _ => none
  | .p2u x => nap1 (np2u h) (nev e x)
  | .u2p ty n x => nap1 (nu2p h ty n) (nev e x)
  | .noesc _ x => nap1 (nnoesc h) (nev e x)
  | .usd x => nap1 (nusd h) (nev e x)
  | .uss ty x n => nap2 (nuss h ty) (nev e x) (nev e n)
end Go.Proofs.Ytnjmdkecpadehaa.M
