/- The framework M, twentieth text: a statement's argument, as it lies in the world, as rows and values of M. Conditions: the types are whole numbers, bools, strings, slices, structs of such. -/
import Derived.Test.YtnjmdkecpadehaaMSim
import Derived.Test.YtnjmdkecpadehaaRows
import Derived.WalkKit
import Derived.ProofKit
import Derived.OpenShut
import Derived.Below
set_option linter.all false
set_option linter.unusedSimpArgs false
namespace Go.Proofs.Ytnjmdkecpadehaa.M

/-! ### Shapes and data -/
inductive Sh where
  | int (k : IntKind)
  | bool
  | str
  | sl (s : Sh)
  | unit
  | pair (a b : Sh)
@[reducible] def Dat : Sh → Type
  | .int _ => Int
  | .bool => Bool
  | .str => ByteArray
  | .sl s => List (Dat s)
  | .unit => Unit
  | .pair a b => Dat a × Dat b
def Sh.width : Sh → Nat
  | .int _ => 1
  | .bool => 1
  | .str => 1
  | .sl _ => 1
  | .unit => 0
  | .pair a b => a.width + b.width
def DenL {α : Type} (D : α → List Value → Prop) : List α → List Value → Prop
  | [], cs => cs = []
  | x :: l, cs => ∃ c1 c2, cs = c1 ++ c2 ∧ D x c1 ∧ DenL D l c2
/-- What cells of M's heap tell. -/
def Den (H : Heap) : (s : Sh) → Dat s → List Value → Prop
  | .int k, n, cs => cs = [.int k n] ∧ (Lit.int k n).wf = true
  | .bool, b, cs => cs = [.bool b]
  | .str, s, cs => cs = [.string s] ∧ s.size ≤ maxLen
  | .sl s, l, cs => (l = [] ∧ ∃ a, cs = [.slice a 0 0] ∧ ∀ x, a = some x → x.spot = none ∧ x.block < H.size) ∨
      ∃ b cells, cs = [.slice (some ⟨b, 0, none⟩) (List.length l) (List.length l)] ∧ b < H.size ∧ H.get b = some ⟨cells, s.width, false, none⟩ ∧ cells.length = List.length l * s.width ∧ DenL (Den H s) l cells
  | .unit, _, cs => cs = []
  | .pair a b, (x, y), cs => ∃ c1 c2, cs = c1 ++ c2 ∧ Den H a x c1 ∧ Den H b y c2
theorem DenL.imp {α : Type} {D D' : α → List Value → Prop} (h : ∀ x cs, D x cs → D' x cs) : ∀ {l : List α} {cs : List Value}, DenL D l cs → DenL D' l cs
  | [], _, k => k
  | x :: l, cs, ⟨c1, c2, e, k1, k2⟩ => ⟨c1, c2, e, h _ _ k1, DenL.imp h k2⟩
theorem Den.keeps {H H' : Heap} (h : Keeps H H') : ∀ {s : Sh} {x : Dat s} {cs : List Value}, Den H s x cs → Den H' s x cs
  | .int _, _, _, k => k
  | .bool, _, _, k => k
  | .str, _, _, k => k
  | .unit, _, _, k => k
  | .pair a b, (x, y), cs, ⟨c1, c2, e, k1, k2⟩ => ⟨c1, c2, e, Den.keeps h k1, Den.keeps h k2⟩
  | .sl s, l, cs, k => by
    rcases k with ⟨e, a, k1, k2⟩ | ⟨b, cells, k1, k2, k3, k4, k5⟩
    · exact .inl ⟨e, a, k1, fun x hx => ⟨(k2 x hx).1, Nat.lt_of_lt_of_le (k2 x hx).2 h.1⟩⟩
    · exact .inr ⟨b, cells, k1, Nat.lt_of_lt_of_le k2 h.1, h.2 _ _ k3, k4, k5.imp fun _ _ => Den.keeps h⟩
theorem Den.length {H : Heap} : ∀ {s : Sh} {x : Dat s} {cs : List Value}, Den H s x cs → cs.length = s.width
  | .int _, _, _, k => by rw [k.1]; rfl
  | .bool, _, _, k => by rw [show _ = _ from k]; rfl
  | .str, _, _, k => by rw [k.1]; rfl
  | .unit, _, _, k => by rw [show _ = _ from k]; rfl
  | .pair a b, (x, y), cs, ⟨c1, c2, e, k1, k2⟩ => by rw [e, List.length_append, k1.length, k2.length]; rfl
  | .sl s, l, cs, k => by
    rcases k with ⟨e, a, k1, k2⟩ | ⟨b, cells, k1, k2⟩
    · rw [k1]; rfl
    · rw [k1]; rfl
/-- How many bytes such a value takes, at least. -/
def Sh.bytes : Sh → Nat
  | .int k => k.bits / 8
  | .bool => 1
  | .str => 16
  | .sl _ => 24
  | .unit => 0
  | .pair a b => a.bytes + b.bytes
/-- No slice and no string in a datum takes more bytes than this. -/
def fitS (B : Nat) : (s : Sh) → Dat s → Prop
  | .int _, _ => True
  | .bool, _ => True
  | .str, b => b.size ≤ B
  | .sl s, l => List.length l * s.bytes ≤ B ∧ ∀ x ∈ l, fitS B s x
  | .unit, _ => True
  | .pair a b, (x, y) => fitS B a x ∧ fitS B b y
/-- A type's shape. -/
def shapeFs (P : Program) (rec : TypeId → Option Sh) : List Field → Nat → Nat → Option Sh
  | [], off, tot => bif Nat.beq off tot then some .unit else none
  | f :: r, off, tot => match rec f.type with
    | some s => bif Nat.beq f.offset off && Nat.beq (P.cellsOf f.type) s.width then (match shapeFs P rec r (off + s.width) tot with
      | some s2 => some (.pair s s2)
      | none => none) else none
    | none => none
def shapeOf (P : Program) : Nat → TypeId → Option Sh
  | 0, _ => none
  | n + 1, t => match P.underlying t with
    | some (.int k) => some (.int k)
    | some .bool => some .bool
    | some .string => some .str
    | some (.slice e) => match shapeOf P n e with
      | some s => bif (Nat.beq (P.cellsOf e) s.width && Nat.blt 0 s.width) && Nat.ble s.bytes (P.bytesOf e) then some (.sl s) else none
      | none => none
    | some (.struct fs) => shapeFs P (shapeOf P n) fs.toList 0 (P.cellsOf t)
    | _ => none
/-- How much a datum holds. -/
def bulk : (s : Sh) → Dat s → Nat
  | .int _, _ => 1
  | .bool, _ => 1
  | .str, s => s.size + 1
  | .sl s, l => ((l : List (Dat s)).map (bulk s)).sum + 1
  | .unit, _ => 0
  | .pair a b, (x, y) => bulk a x + bulk b y

/-! ### Out of the world into M -/
def RO (H : Heap) : Prop := ∀ b row, H.get b = some row → row.own = false
def Tight (φ : Phi) (H : Heap) : Prop := ∀ b, H.size ≤ b → φ b = none
def Heap.gap (H : Heap) : Heap := ⟨H.t, H.size + 1⟩
theorem Heap.get_gap (H : Heap) (b : Nat) : H.gap.get b = H.get b := rfl
structure Stands (φ : Phi) (H : Heap) (w : World) : Prop where
  rel : Rel φ H w
  ro : RO H
  tight : Tight φ H
theorem Stands.gap {φ : Phi} {H : Heap} {w : World} (h : Stands φ H w) (p : PB) : Le φ (ext φ H.size p) ∧ Keeps H H.gap ∧ Stands (ext φ H.size p) H.gap w := by
  have hle := ext_le p (h.tight H.size (Nat.le_refl _))
  refine ⟨hle, ⟨Nat.le_succ _, fun _ _ e => e⟩, ⟨⟨fun b row hb => ?_, fun b row q b' row' q' h1 h2 h3 h4 h5 => ?_, fun b row hb => ?_⟩, fun b row hb => h.ro b row hb, fun b hb => ?_⟩⟩
  · rw [Heap.get_gap] at hb
    obtain ⟨q, hq, rr⟩ := h.rel.row b row hb
    refine ⟨q, hle _ _ hq, rr.len, rr.es, rr.le, rr.lt, fun i v hv => ?_, rr.own⟩
    obtain ⟨v', e1, e2⟩ := rr.cell i v hv
    exact ⟨v', e1, e2.mono hle⟩
  · have := h.ro b row h1
    rw [this] at h5
    cases h5
  · have := h.rel.top b row hb
    exact Nat.lt_succ_of_lt this
  · have hb : H.size + 1 ≤ b := hb
    rw [ext_ne _ _ (by omega)]
    exact h.tight b (by omega)
theorem Stands.give {φ : Phi} {H : Heap} {w : World} (h : Stands φ H w) {cells : List Value} {r o n es : Nat} (hc : ∀ i v, cells[i]? = some v → ∃ v', w.cell? ⟨r, o + i, none⟩ = some v' ∧ VR0 φ v v') (hlt : r < w.heap.size) (hn : cells.length ≤ n) :
    Le φ (ext φ H.size ⟨r, o, n, es, cells.length⟩) ∧ Keeps H (H.push ⟨cells, es, false, none⟩) ∧ Stands (ext φ H.size ⟨r, o, n, es, cells.length⟩) (H.push ⟨cells, es, false, none⟩) w := by
  have hle := ext_le ⟨r, o, n, es, cells.length⟩ (h.tight H.size (Nat.le_refl _))
  refine ⟨hle, Keeps.push h.rel.ok _, ⟨⟨fun b row hb => ?_, fun b row q b' row' q' h1 h2 h3 h4 h5 => ?_, Heap.ok_push h.rel.ok _⟩, fun b row hb => ?_, fun b hb => ?_⟩⟩
  · rw [Heap.get_push] at hb
    split at hb
    · rename_i e
      subst e
      cases hb
      refine ⟨_, ext_at _ _ _, rfl, rfl, hn, hlt, fun i v hv => ?_, fun ho => by cases ho⟩
      obtain ⟨v', e1, e2⟩ := hc i v hv
      exact ⟨v', e1, e2.mono hle⟩
    · obtain ⟨q, hq, rr⟩ := h.rel.row b row hb
      refine ⟨q, hle _ _ hq, rr.len, rr.es, rr.le, rr.lt, fun i v hv => ?_, rr.own⟩
      obtain ⟨v', e1, e2⟩ := rr.cell i v hv
      exact ⟨v', e1, e2.mono hle⟩
  · rw [Heap.get_push] at h1
    split at h1
    · cases h1; cases h5
    · have := h.ro b row h1
      rw [this] at h5
      cases h5
  · rw [Heap.get_push] at hb
    split at hb
    · cases hb; rfl
    · exact h.ro b row hb
  · rw [Heap.size_push] at hb
    rw [ext_ne _ _ (by omega)]
    exact h.tight b (by omega)
theorem mapM_spec {α β : Type} {f : α → Option β} : ∀ {l : List α} {r : List β}, l.mapM f = some r → r.length = l.length ∧ ∀ (j : Nat) x y, l[j]? = some x → r[j]? = some y → f x = some y
  | [], r, h => by simp at h; subst h; exact ⟨rfl, fun j x y h1 => by simp at h1⟩
  | a :: l, r, h => by
    rw [List.mapM_cons] at h
    cases hf : f a with
    | none => rw [hf] at h; cases h
    | some b =>
      rw [hf] at h
      cases hr : l.mapM f with
      | none => rw [hr] at h; cases h
      | some r' =>
        rw [hr] at h
        cases h
        obtain ⟨h1, h2⟩ := mapM_spec hr
        refine ⟨by simp [h1], fun j x y e1 e2 => ?_⟩
        cases j with
        | zero => simp at e1 e2; subst e1 e2; exact hf
        | succ j => exact h2 j x y (by simpa using e1) (by simpa using e2)
theorem add_add (a : Addr) (m j : Nat) : (a.add m).add j = a.add (m + j) := by
  unfold Addr.add
  by_cases h1 : m = 0 <;> by_cases h2 : j = 0 <;> simp [h1, h2, Nat.add_assoc]
theorem cells_spec {w : World} {base : Nat} {a : Addr} {n : Nat} {cs : List Value} (h : w.cells? base a n = some cs) : cs.length = n ∧ ∀ (j : Nat) u, cs[j]? = some u → w.cell? (a.add j) = some u := by
  unfold World.cells? at h
  split at h
  · obtain ⟨h1, h2⟩ := mapM_spec h
    simp at h1
    refine ⟨h1, fun j u hu => ?_⟩
    have hj : j < n := by have := (List.getElem?_eq_some_iff.1 hu).1; omega
    exact h2 j j u (by simp [hj]) hu
  · cases h

section
variable {E : Type} {enc : TypeId × Value → E} {P : Program} {w : World} {base : Nat} {spare : Nat → Bool} {held : Bool}
/-- What is to be shown of one datum. -/
def Opens (E : Type) (P : Program) (w : World) (t : TypeId) (s : Sh) (cs : List Value) (d : DataW E) : Prop := ∀ (φ : Phi) (H : Heap), Stands φ H w →
  ∃ (φ' : Phi) (H' : Heap) (x : Dat s) (cs' : List Value), Le φ φ' ∧ Keeps H H' ∧ Stands φ' H' w ∧ Den H' s x cs' ∧ LR (VR0 φ') cs' cs ∧ bulk s x ≤ Rows.uptoBulk d ∧ ∀ B, (∀ n ∈ d.weights P t, n ≤ B) → fitS B s x
theorem shapeFs_le {rec : TypeId → Option Sh} : ∀ {fs : List Field} {off tot : Nat} {s : Sh}, shapeFs P rec fs off tot = some s → off ≤ tot
  | [], off, tot, s, hs => by
    unfold shapeFs at hs
    rw [cond_eq_ite] at hs
    split at hs <;> cases hs
    rename_i hb
    rw [beq_eq, decide_eq_true_eq] at hb
    omega
  | f :: r, off, tot, s, hs => by
    unfold shapeFs at hs
    split at hs <;> try cases hs
    rw [cond_eq_ite] at hs
    split at hs <;> try cases hs
    split at hs <;> cases hs
    rename_i h2
    have := shapeFs_le h2
    omega
theorem opens_fields {rec : TypeId → Option Sh} {tr : Field → Option (DataW E × List MemPlace)} {cs : List Value} (ih : ∀ (f : Field) s y, rec f.type = some s → tr f = some y → ((cs.drop f.offset).take (P.cellsOf f.type)).length = s.width → Opens E P w f.type s ((cs.drop f.offset).take (P.cellsOf f.type)) y.1) :
    ∀ (fs : List Field) (off : Nat) (s : Sh) (ys : List (DataW E × List MemPlace)), shapeFs P rec fs off cs.length = some s → fs.mapM tr = some ys →
      ∀ (φ : Phi) (H : Heap), Stands φ H w → ∃ (φ' : Phi) (H' : Heap) (x : Dat s) (cs' : List Value), Le φ φ' ∧ Keeps H H' ∧ Stands φ' H' w ∧ Den H' s x cs' ∧ LR (VR0 φ') cs' (cs.drop off) ∧ bulk s x ≤ Rows.uptoBulkAll (ys.map (·.1)) ∧ ∀ B, (∀ n ∈ DataW.weightsEach P (fs.map (·.type)) (ys.map (·.1)), n ≤ B) → fitS B s x
  | [], off, s, ys, hs, hm, φ, H, hst => by
    unfold shapeFs at hs
    rw [cond_eq_ite] at hs
    split at hs <;> cases hs
    rename_i hb
    rw [beq_eq, decide_eq_true_eq] at hb
    subst hb
    refine ⟨φ, H, (), [], Le.refl _, Keeps.refl _, hst, rfl, ?_, Nat.zero_le _, fun _ _ => trivial⟩
    rw [List.drop_length]
    exact trivial
  | f :: r, off, s, ys, hs, hm, φ, H, hst => by
    unfold shapeFs at hs
    split at hs <;> try cases hs
    rename_i s1 hs1
    rw [cond_eq_ite] at hs
    split at hs <;> try cases hs
    rename_i hb
    split at hs <;> cases hs
    rename_i s2 hs2
    obtain ⟨b1, b2⟩ := ok_and hb
    rw [beq_eq, decide_eq_true_eq] at b1 b2
    rw [List.mapM_cons] at hm
    cases hf : tr f with
    | none => rw [hf] at hm; cases hm
    | some y =>
      rw [hf] at hm
      cases hr : r.mapM tr with
      | none => rw [hr] at hm; cases hm
      | some ys' =>
        rw [hr] at hm
        cases hm
        obtain ⟨φ1, H1, x1, c1, l1, k1, t1, d1, v1, u1, g1⟩ := ih f s1 y hs1 hf (by have := shapeFs_le hs2; rw [b1, b2]; simp; omega) φ H hst
        obtain ⟨φ2, H2, x2, c2, l2, k2, t2, d2, v2, u2, g2⟩ := opens_fields ih r (off + s1.width) s2 ys' hs2 hr φ1 H1 t1
        refine ⟨φ2, H2, (x1, x2), c1 ++ c2, l1.trans l2, k1.trans k2, t2, ⟨c1, c2, rfl, d1.keeps k2, d2⟩, ?_, ?_, fun B hB => ⟨g1 B fun n hn => hB n ?_, g2 B fun n hn => hB n ?_⟩⟩
        · have hcut : cs.drop off = ((cs.drop f.offset).take (P.cellsOf f.type)) ++ cs.drop (off + s1.width) := by
            rw [b1, b2, ← List.drop_drop, List.take_append_drop]
          rw [hcut]
          exact (v1.imp fun _ _ => VR0.mono l2).append v2
        · simp only [List.map_cons, Rows.uptoBulkAll, bulk]
          omega
        · simp only [List.map_cons, DataW.weightsEach, List.mem_append]
          exact .inl hn
        · simp only [List.map_cons, DataW.weightsEach, List.mem_append]
          exact .inr hn
theorem opens_elems {e : TypeId} {s : Sh} {W : Nat} {a : Addr} {tr : List Value → Option (DataW E × List MemPlace)} (ih : ∀ cs y, tr cs = some y → cs.length = W → Opens E P w e s cs y.1) :
    ∀ (k i : Nat) (ys : List (DataW E × List MemPlace)), (List.range' i k).mapM (fun i => (w.cells? base (a.add (i * W)) W).bind tr) = some ys →
      ∀ (φ : Phi) (H : Heap), Stands φ H w → ∃ (φ' : Phi) (H' : Heap) (xs : List (Dat s)) (cs' cs : List Value), Le φ φ' ∧ Keeps H H' ∧ Stands φ' H' w ∧ xs.length = k ∧ DenL (Den H' s) xs cs' ∧ LR (VR0 φ') cs' cs ∧ cs.length = k * W ∧
        (∀ (j : Nat) u, cs[j]? = some u → w.cell? (a.add (i * W + j)) = some u) ∧ (xs.map (bulk s)).sum ≤ Rows.uptoBulkAll (ys.map (·.1)) ∧ ys.length = k ∧ ∀ B, (∀ n ∈ DataW.weightsAll P e (ys.map (·.1)), n ≤ B) → ∀ x ∈ xs, fitS B s x
  | 0, i, ys, hm, φ, H, hst => by
    simp at hm
    exact ⟨φ, H, [], [], [], Le.refl _, Keeps.refl _, hst, rfl, rfl, trivial, by simp, fun j u hu => by simp at hu, by simp, by subst hm; rfl, fun _ _ x hx => by cases hx⟩
  | k + 1, i, ys, hm, φ, H, hst => by
    rw [List.range'_succ, List.mapM_cons] at hm
    cases hc : w.cells? base (a.add (i * W)) W with
    | none => rw [hc] at hm; cases hm
    | some ci =>
      rw [hc] at hm
      simp only [Option.bind_some] at hm
      cases hf : tr ci with
      | none => rw [hf] at hm; cases hm
      | some y =>
        rw [hf] at hm
        cases hr : (List.range' (i + 1) k).mapM (fun i => (w.cells? base (a.add (i * W)) W).bind tr) with
        | none => simp only [hr] at hm; cases hm
        | some ys' =>
          simp only [hr] at hm
          cases hm
          obtain ⟨hcl, hcc⟩ := cells_spec hc
          obtain ⟨φ1, H1, x1, c1, l1, k1, t1, d1, v1, u1, g1⟩ := ih ci y hf hcl φ H hst
          obtain ⟨φ2, H2, xs, c2, cs2, l2, k2, t2, n2, d2, v2, m2, w2, u2, y2, g2⟩ := opens_elems ih k (i + 1) ys' hr φ1 H1 t1
          refine ⟨φ2, H2, x1 :: xs, c1 ++ c2, ci ++ cs2, l1.trans l2, k1.trans k2, t2, by simp [n2], ⟨c1, c2, rfl, d1.keeps k2, d2⟩, (v1.imp fun _ _ => VR0.mono l2).append v2, by rw [List.length_append, hcl, m2, Nat.add_mul]; omega, fun j u hu => ?_, ?_, by rw [List.length_cons, y2], fun B hB x hx => ?_⟩
          · rw [List.getElem?_append] at hu
            split at hu
            · have := hcc j u hu
              rwa [add_add] at this
            · have := w2 (j - ci.length) u hu
              rw [hcl, Nat.add_mul] at this
              rw [← this]
              congr 2
              omega
          · simp only [List.map_cons, List.sum_cons, Rows.uptoBulkAll]
            omega
          · simp only [List.map_cons, DataW.weightsAll, List.mem_append] at hB
            rcases List.mem_cons.1 hx with rfl | hx
            · exact g1 B fun n hn => hB n (.inl hn)
            · exact g2 B (fun n hn => hB n (.inr hn)) x hx
theorem opens (hspare : ∀ b, spare b = true) : ∀ (fuel : Nat) (t : TypeId) (cs : List Value) (d : DataW E) (pl : List MemPlace), DataW.trod enc P w base spare held fuel t cs = some (d, pl) → ∀ (n : Nat) (s : Sh), shapeOf P n t = some s → cs.length = s.width → Opens E P w t s cs d
  | 0, t, cs, d, pl, h, _, _, _, _ => by simp [DataW.trod] at h
  | fuel + 1, t, cs, d, pl, h, 0, s, hs, hl => by simp [shapeOf] at hs
  | fuel + 1, t, cs, d, pl, h, n + 1, s, hs, hl => by
    have ih := opens hspare fuel
    intro φ H hst
    unfold shapeOf at hs
    split at hs
    · rename_i k hu
      cases hs
      match cs, hl with
      | [v], _ =>
        cases v <;> simp [DataW.trod, hu] at h
        rename_i k' m _
        obtain ⟨⟨rfl, hwf⟩, rfl, _⟩ := h
        exact ⟨φ, H, m, [.int k' m], Le.refl _, Keeps.refl _, hst, ⟨rfl, hwf⟩, ⟨rfl, trivial⟩, by simp [bulk, Rows.uptoBulk], fun _ _ => trivial⟩
    · rename_i hu
      cases hs
      match cs, hl with
      | [v], _ =>
        cases v <;> simp [DataW.trod, hu] at h
        rename_i b _
        obtain ⟨rfl, _⟩ := h
        exact ⟨φ, H, b, [.bool b], Le.refl _, Keeps.refl _, hst, rfl, ⟨rfl, trivial⟩, by simp [bulk, Rows.uptoBulk], fun _ _ => trivial⟩
    · rename_i hu
      cases hs
      match cs, hl with
      | [v], _ =>
        cases v <;> simp [DataW.trod, hu] at h
        rename_i b _
        obtain ⟨hsz, rfl, _⟩ := h
        exact ⟨φ, H, b, [.string b], Le.refl _, Keeps.refl _, hst, ⟨rfl, hsz⟩, ⟨rfl, trivial⟩, by simp [bulk, Rows.uptoBulk], fun B hB => by simpa [fitS, DataW.weights] using hB⟩
    · rename_i e hu
      split at hs <;> try cases hs
      rename_i s1 hs1
      rw [cond_eq_ite] at hs
      split at hs <;> cases hs
      rename_i hb
      obtain ⟨b12, b3⟩ := ok_and hb
      obtain ⟨b1, b2⟩ := ok_and b12
      have b3 : s1.bytes ≤ P.bytesOf e := Nat.le_of_ble_eq_true b3
      rw [beq_eq, decide_eq_true_eq] at b1
      have b2 : 0 < s1.width := Nat.le_of_ble_eq_true b2
      match cs, hl with
      | [v], _ =>
        cases v with
        | slice a len cap =>
          cases a with
          | none =>
            cases len with
            | succ m => simp [DataW.trod, hu] at h
            | zero =>
              cases cap with
              | succ m => simp [DataW.trod, hu] at h
              | zero =>
                simp [DataW.trod, hu] at h
                obtain ⟨rfl, _⟩ := h
                refine ⟨φ, H, [], [.slice none 0 0], Le.refl _, Keeps.refl _, hst, .inl ⟨rfl, none, rfl, fun x hx => by cases hx⟩, ⟨⟨rfl, rfl, rfl⟩, trivial⟩, ?_, fun B _ => ⟨by simp, fun x hx => by cases hx⟩⟩
                exact Nat.le_refl _
          | some a =>
            simp only [DataW.trod, hu] at h
            split at h <;> try cases h
            rename_i hcap
            cases he : (List.range len).mapM (fun i => (w.cells? base (a.add (i * P.cellsOf e)) (P.cellsOf e)).bind (DataW.trod enc P w base spare held fuel e)) with
            | none => rw [he] at h; cases h
            | some ys =>
              rw [he] at h
              simp only [Option.bind_some, Option.map_eq_some_iff] at h
              obtain ⟨rest, hrest, h⟩ := h
              cases h
              rw [List.range_eq_range', b1] at he
              obtain ⟨φ1, H1, xs, cs', cells, l1, k1, t1, n1, d1, v1, m1, w1, u1, y1, g1⟩ := opens_elems (e := e) (s := s1) (E := E) (fun c y hy hcl => ih e c y.1 y.2 hy n s1 hs1 hcl) len 0 ys he φ H hst
              have hbulk : bulk (.sl s1) xs ≤ Rows.uptoBulk (DataW.slice (ys.map (·.1)) (rest.map (·.1))) := by
                simp only [bulk, Rows.uptoBulk]
                omega
              have hfit : ∀ B, (∀ n ∈ (DataW.slice (ys.map (·.1)) (rest.map (·.1))).weights P t, n ≤ B) → fitS B (.sl s1) xs := fun B hB => by
                simp only [DataW.weights, hu, List.mem_cons, List.mem_append] at hB
                refine ⟨?_, g1 B fun n hn => hB n (.inr (.inl hn))⟩
                have h9 := hB _ (.inl rfl)
                simp only [List.length_map, y1] at h9
                have h8 : List.length xs * s1.bytes ≤ (len + rest.length) * P.bytesOf e := Nat.mul_le_mul (by omega) b3
                exact Nat.le_trans h8 h9
              rcases Nat.eq_zero_or_pos len with h0 | h0
              · subst h0
                have hx0 : xs = [] := List.eq_nil_of_length_eq_zero n1
                subst hx0
                obtain ⟨l2, k2, t2⟩ := t1.gap ⟨a.block, a.off, cap * s1.width, s1.width, 0⟩
                have hspot : 0 < cap → a.spot = none := fun hc => by
                  rw [hspare, if_pos rfl] at hrest
                  obtain ⟨r1, r2⟩ := mapM_spec hrest
                  simp at r1
                  have hrl : 0 < rest.length := by omega
                  have hr0 := r2 0 0 (rest[0]) (by simp [hc]) (List.getElem?_eq_getElem hrl)
                  cases hci : w.cells? base (a.add ((0 + 0) * P.cellsOf e)) (P.cellsOf e) with
                  | none => rw [hci] at hr0; cases hr0
                  | some ci =>
                    obtain ⟨q1, q2⟩ := cells_spec hci
                    have hq := q2 0 (ci[0]'(by omega)) (List.getElem?_eq_getElem _)
                    have ha0 : (a.add ((0 + 0) * P.cellsOf e)).add 0 = a := by unfold Addr.add; simp
                    rw [ha0] at hq
                    unfold World.cell? at hq
                    split at hq
                    · split at hq
                      · cases hq
                      · rename_i hn
                        simpa using hn
                    · cases hq
                refine ⟨_, _, [], [.slice (some ⟨H1.size, 0, none⟩) 0 0], l1.trans l2, k1.trans k2, t2, .inl ⟨rfl, _, rfl, fun x hx => by cases hx; exact ⟨rfl, Nat.lt_succ_self _⟩⟩, ⟨⟨rfl, _, cap, a, ext_at _ _ _, rfl, Nat.le_refl _, Nat.zero_le _, by simp, by simp, fun hc => ?_, .inr (by simp)⟩, trivial⟩, hbulk, hfit⟩
                have := hspot hc
                obtain ⟨ab, ao, asp⟩ := a
                simp only at this
                subst this
                simp
              · have hcl' : cs'.length = len * s1.width := by rw [v1.length, m1]
                have hpos : 0 < len * s1.width := Nat.mul_pos h0 b2
                have hw0 := w1 0 (cells[0]'(by omega)) (List.getElem?_eq_getElem _)
                simp only [Nat.zero_mul, Nat.add_zero] at hw0
                have ha0 : a.add 0 = a := by unfold Addr.add; simp
                rw [ha0] at hw0
                have hsp : a.spot = none ∧ a.block < w.heap.size := by
                  unfold World.cell? at hw0
                  split at hw0
                  · rename_i c9 e9 f9 h9
                    split at hw0
                    · cases hw0
                    · rename_i hn
                      exact ⟨by simpa using hn, (Array.getElem?_eq_some_iff.1 h9).1⟩
                  · cases hw0
                obtain ⟨ab, ao, asp⟩ := a
                obtain ⟨hsp, hlt⟩ := hsp
                simp only at hsp hlt
                subst hsp
                obtain ⟨l2, k2, t2⟩ := t1.give (cells := cs') (r := ab) (o := ao) (n := cap * s1.width) (es := s1.width) (fun i v hv => by
                  obtain ⟨v', e1, e2⟩ := v1.get i v hv
                  have := w1 i v' e1
                  rw [add_at] at this
                  simp only [Nat.zero_mul, Nat.zero_add] at this
                  exact ⟨v', this, e2⟩) hlt (by rw [hcl']; exact Nat.mul_le_mul_right _ hcap.2.1)
                refine ⟨_, _, xs, [.slice (some ⟨H1.size, 0, none⟩) len len], l1.trans l2, k1.trans k2, t2, .inr ⟨H1.size, cs', by rw [n1], by rw [Heap.size_push]; exact Nat.lt_succ_self _, Heap.get_push_size _ _, by rw [hcl', n1], d1.imp fun _ _ => Den.keeps k2⟩,
                  ⟨⟨rfl, _, cap, _, ext_at _ _ _, rfl, Nat.le_refl _, hcap.2.1, by simp [hcl'], by simp, fun _ => by simp, .inr (by simp [hcl'])⟩, trivial⟩, hbulk, hfit⟩
        | _ => simp [DataW.trod, hu] at h
    · rename_i fs hu
      simp only [DataW.trod, hu] at h
      split at h <;> try cases h
      rename_i hcs
      simp only [Option.map_eq_some_iff] at h
      obtain ⟨ys, hys, h⟩ := h
      cases h
      rw [← hcs] at hs
      obtain ⟨φ1, H1, x, cs', l1, k1, t1, d1, v1, u1, g1⟩ := opens_fields (E := E) (fun f s2 y hs2 hy hl2 => ih f.type _ y.1 y.2 hy n s2 hs2 hl2) fs.toList 0 s ys hs hys φ H hst
      · refine ⟨φ1, H1, x, cs', l1, k1, t1, d1, by simpa using v1, ?_, fun B hB => g1 B fun n hn => hB n ?_⟩
        · simp only [Rows.uptoBulk]
          omega
        · simp only [DataW.weights, hu]
          exact hn
    · cases hs
end

end Go.Proofs.Ytnjmdkecpadehaa.M
