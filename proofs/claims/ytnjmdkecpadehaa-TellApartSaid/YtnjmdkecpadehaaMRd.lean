/- The framework M, twenty-second text: what slices and structs of M's heap read as; append onto a row of one's own. Conditions: none. -/
import Derived.Test.YtnjmdkecpadehaaMLaw
set_option linter.all false
set_option linter.unusedSimpArgs false
namespace Go.Proofs.Ytnjmdkecpadehaa.M

/-- A slice of n elements, w cells each, that reads as these cells. -/
def Arr (H : Heap) (v : Value) (n w : Nat) (cells : List Value) : Prop :=
  (n = 0 ∧ cells = [] ∧ ∃ a, v = .slice a 0 0 ∧ ∀ x, a = some x → x.spot = none) ∨
  ∃ b off c, v = .slice (some ⟨b, off, none⟩) n c ∧ b < H.size ∧ H.loadN b off (n * w) = some cells
/-- What cells read as. -/
def Rd (H : Heap) : (s : Sh) → Dat s → List Value → Prop
  | .int k, n, cs => cs = [.int k n] ∧ (Lit.int k n).wf = true
  | .bool, b, cs => cs = [.bool b]
  | .str, s, cs => cs = [.string s] ∧ s.size ≤ maxLen
  | .sl s, l, cs => ∃ v cells, cs = [v] ∧ Arr H v (List.length l) s.width cells ∧ DenL (Rd H s) l cells
  | .unit, _, cs => cs = []
  | .pair a b, (x, y), cs => ∃ c1 c2, cs = c1 ++ c2 ∧ Rd H a x c1 ∧ Rd H b y c2
theorem Arr.keeps {H H' : Heap} (h : Keeps H H') {v : Value} {n w : Nat} {cells : List Value} (k : Arr H v n w cells) : Arr H' v n w cells := by
  rcases k with k | ⟨b, off, c, h1, h2, h3⟩
  · exact .inl k
  · exact .inr ⟨b, off, c, h1, Nat.lt_of_lt_of_le h2 h.1, loadN_keeps h h3⟩
theorem Rd.keeps {H H' : Heap} (h : Keeps H H') : ∀ {s : Sh} {x : Dat s} {cs : List Value}, Rd H s x cs → Rd H' s x cs
  | .int _, _, _, k => k
  | .bool, _, _, k => k
  | .str, _, _, k => k
  | .unit, _, _, k => k
  | .pair a b, (x, y), cs, ⟨c1, c2, e, k1, k2⟩ => ⟨c1, c2, e, Rd.keeps h k1, Rd.keeps h k2⟩
  | .sl s, l, cs, ⟨v, cells, e, k1, k2⟩ => ⟨v, cells, e, k1.keeps h, k2.imp fun _ _ => Rd.keeps h⟩
theorem Rd.length {H : Heap} : ∀ {s : Sh} {x : Dat s} {cs : List Value}, Rd H s x cs → cs.length = s.width
  | .int _, _, _, k => by rw [k.1]; rfl
  | .bool, _, _, k => by rw [show _ = _ from k]; rfl
  | .str, _, _, k => by rw [k.1]; rfl
  | .unit, _, _, k => by rw [show _ = _ from k]; rfl
  | .pair a b, (x, y), cs, ⟨c1, c2, e, k1, k2⟩ => by rw [e, List.length_append, k1.length, k2.length]; rfl
  | .sl s, l, cs, ⟨v, cells, e, _⟩ => by rw [e]; rfl
theorem loadN_all {H : Heap} {b : Nat} {row : Row} (h : H.get b = some row) {n : Nat} (hn : row.cells.length = n) : H.loadN b 0 n = some row.cells := by
  rw [loadN_of h]
  subst hn
  simp
theorem Den.rd {H : Heap} : ∀ {s : Sh} {x : Dat s} {cs : List Value}, Den H s x cs → Rd H s x cs
  | .int _, _, _, k => k
  | .bool, _, _, k => k
  | .str, _, _, k => k
  | .unit, _, _, k => k
  | .pair a b, (x, y), cs, ⟨c1, c2, e, k1, k2⟩ => ⟨c1, c2, e, k1.rd, k2.rd⟩
  | .sl s, l, cs, k => by
    rcases k with ⟨e, a, k1, k2⟩ | ⟨b, cells, k1, k2, k3, k4, k5⟩
    · subst e
      exact ⟨.slice a 0 0, [], k1, .inl ⟨rfl, rfl, a, rfl, fun x hx => (k2 x hx).1⟩, rfl⟩
    · exact ⟨_, cells, k1, .inr ⟨b, 0, _, rfl, k2, loadN_all k3 k4⟩, k5.imp fun _ _ => Den.rd⟩
theorem DenL.length {α : Type} {D : α → List Value → Prop} {w : Nat} (h : ∀ x cs, D x cs → cs.length = w) : ∀ {l : List α} {cs : List Value}, DenL D l cs → cs.length = l.length * w
  | [], cs, k => by rw [show cs = [] from k]; simp
  | x :: l, cs, ⟨c1, c2, e, k1, k2⟩ => by rw [e, List.length_append, h _ _ k1, DenL.length h k2, List.length_cons, Nat.add_mul]; omega
theorem DenL.at_ {α : Type} {D : α → List Value → Prop} {w : Nat} (h : ∀ x cs, D x cs → cs.length = w) : ∀ {l : List α} {cs : List Value}, DenL D l cs → ∀ (i : Nat) (hi : i < l.length), D l[i] ((cs.drop (i * w)).take w)
  | x :: l, cs, ⟨c1, c2, e, k1, k2⟩, 0, hi => by
    subst e
    have := h _ _ k1
    simp only [Nat.zero_mul, List.drop_zero, List.getElem_cons_zero]
    rw [List.take_append_of_le_length (by omega), List.take_of_length_le (by omega)]
    exact k1
  | x :: l, cs, ⟨c1, c2, e, k1, k2⟩, i + 1, hi => by
    subst e
    have h1 := h _ _ k1
    have := DenL.at_ h k2 i (by simpa using hi)
    have e3 : List.drop ((i + 1) * w) (c1 ++ c2) = List.drop (i * w) c2 := by
      rw [show (i + 1) * w = c1.length + i * w by rw [h1, Nat.add_mul]; omega]
      simp [List.drop_append]
    rw [e3]
    simpa using this
  | [], _, _, _, hi => by simp at hi
theorem DenL.append {α : Type} {D : α → List Value → Prop} : ∀ {l m : List α} {cs ds : List Value}, DenL D l cs → DenL D m ds → DenL D (l ++ m) (cs ++ ds)
  | [], m, cs, ds, k, k' => by rw [show cs = [] from k]; exact k'
  | x :: l, m, cs, ds, ⟨c1, c2, e, k1, k2⟩, k' => ⟨c1, c2 ++ ds, by rw [e, List.append_assoc], k1, DenL.append k2 k'⟩
theorem DenL.one {α : Type} {D : α → List Value → Prop} {x : α} {cs : List Value} (h : D x cs) : DenL D [x] cs := ⟨cs, [], by simp, h, rfl⟩
/-- One element of a slice. -/
theorem Arr.at_ {H : Heap} {v : Value} {n w : Nat} {cells : List Value} (h : Arr H v n w cells) {i : Nat} (hi : i < n) : ∃ b off c, v = .slice (some ⟨b, off, none⟩) n c ∧ b < H.size ∧ ∀ j m, j + m ≤ w → H.loadN b (off + i * w + j) m = some ((cells.drop (i * w + j)).take m) := by
  rcases h with ⟨h0, _⟩ | ⟨b, off, c, h1, h2, h3⟩
  · omega
  · refine ⟨b, off, c, h1, h2, fun j m hj => ?_⟩
    have : (i + 1) * w ≤ n * w := Nat.mul_le_mul_right _ hi
    rw [Nat.add_mul] at this
    have := loadN_part h3 (i := i * w + j) (m := m) (by omega)
    rw [Nat.add_assoc]
    exact this
theorem Arr.len {H : Heap} {v : Value} {n w : Nat} {cells : List Value} (h : Arr H v n w cells) : ∃ a c, v = .slice a n c := by
  rcases h with ⟨rfl, _, a, rfl, _⟩ | ⟨b, off, c, rfl, _⟩
  · exact ⟨a, 0, rfl⟩
  · exact ⟨_, c, rfl⟩
theorem Arr.new {H : Heap} {v : Value} {n w : Nat} {cells : List Value} (h : Arr H v n w cells) : newOf H w v = some (cells, n) := by
  rcases h with ⟨rfl, rfl, a, rfl, ha⟩ | ⟨b, off, c, rfl, _, h3⟩
  · cases a with
    | none => rfl
    | some x =>
      obtain ⟨b, off, sp⟩ := x
      have : sp = none := ha _ rfl
      subst this
      simp only [newOf, Nat.zero_mul]
      unfold Heap.loadN
      cases H.get b with
      | none => rfl
      | some row => simp
  · simp only [newOf, h3]

/-! ### Append onto a row of one's own -/
/-- A slice that is being built: all its row, and the row one's own. -/
def Acc (H : Heap) (v : Value) (n w : Nat) (cells : List Value) (own : Option Nat) : Prop :=
  (own = none ∧ v = .slice none 0 0 ∧ n = 0 ∧ cells = []) ∨
  ∃ b ty, own = some b ∧ v = .slice (some ⟨b, 0, none⟩) n n ∧ H.get b = some ⟨cells, w, true, ty⟩ ∧ cells.length = n * w
def Heap.less (H : Heap) : Option Nat → Heap
  | .some b => H.set b .none
  | .none => H
theorem Acc.app {H : Heap} (ho : H.ok) {v x : Value} {n m w ty bytes : Nat} {cells cs : List Value} {own : Option Nat} (h : Acc H v n w cells own) (hx : newOf H w x = some (cs, m)) (hm : cs.length = m * w) (hroom : (n + m) * bytes ≤ 140737488355328) :
    ∃ v' H' own', appV ty w bytes H v x = some (v', H') ∧ Acc H' v' (n + m) w (cells ++ cs) own' ∧ Keeps (H.less own) (H'.less own') ∧ H'.ok ∧ H.size ≤ H'.size ∧ (∀ b, own' = some b → own = some b ∨ H.size ≤ b) := by
  rcases Nat.eq_zero_or_pos m with h0 | h0
  · subst h0
    have hc : cs = [] := List.eq_nil_of_length_eq_zero (by simpa using hm)
    subst hc
    refine ⟨v, H, own, ?_, by simpa using h, Keeps.refl _, ho, Nat.le_refl _, fun b hb => .inl hb⟩
    rcases h with ⟨_, rfl, _, _⟩ | ⟨b, ty', _, rfl, _, _⟩
    · simp [appV, hx]
    · simp [appV, hx]
  · have hm0 : Nat.beq m 0 = false := by rw [beq_eq]; simp; omega
    rcases h with ⟨rfl, rfl, rfl, rfl⟩ | ⟨b, ty', rfl, rfl, hb, hl⟩
    · refine ⟨.slice (some ⟨H.size, 0, none⟩) m m, H.push ⟨cs, w, true, some ty⟩, some H.size, ?_, .inr ⟨H.size, some ty, rfl, by simp, by simp, by simpa using hm⟩, ⟨?_, fun b row hr => ?_⟩, Heap.ok_push ho _, by simp, fun b hb => .inr (by cases hb; exact Nat.le_refl _)⟩
      · have : Nat.ble (m * bytes) room = true := Nat.ble_eq_true_of_le (by simpa [room] using hroom)
        simp only [appV, hx, hm0, cond_false, this, cond_true]
      · simp [Heap.less, Heap.size_set, Heap.size_push]
      · simp only [Heap.less] at hr ⊢
        have := ho b row hr
        rw [Heap.get_set, if_neg (by omega), Heap.get_push, if_neg (by omega)]
        exact hr
    · have hbs := ho b _ hb
      have hne : Nat.ble (n + m) n = false := by
        rw [Bool.eq_false_iff]
        intro e
        have := Nat.le_of_ble_eq_true e
        omega
      have hrm : Nat.ble ((n + m) * bytes) room = true := Nat.ble_eq_true_of_le (by simpa [room] using hroom)
      have htk : (cells.drop 0).take (n * w) = cells := by rw [List.drop_zero, List.take_of_length_le (by omega)]
      have hbl : Nat.blt (0 + n * w) cells.length = false := by
        rw [Bool.eq_false_iff]
        intro e
        have : 0 + n * w < cells.length := Nat.le_of_ble_eq_true e
        omega
      refine ⟨.slice (some ⟨H.size, 0, none⟩) (n + m) (n + m), (H.set b none).push ⟨cells ++ cs, w, true, keepTy ty 0 ty'⟩, some H.size, ?_, .inr ⟨H.size, keepTy ty 0 ty', rfl, rfl, ?_, by simp [hl, hm, Nat.add_mul]⟩, ⟨?_, fun b' row hr => ?_⟩, ?_, by simp [Heap.size_set], fun b hb => .inr (by cases hb; exact Nat.le_refl _)⟩
      · simp only [appV, hx, hm0, cond_false, hne, hrm, cond_true, hb, htk, beq_eq, hl, decide_true, Bool.and_self]
        simp only [hl] at hbl
        simp only [hbl, cond_false]
      · rw [Heap.get_push, Heap.size_set, if_pos rfl]
      · simp [Heap.less, Heap.size_set, Heap.size_push]
      · simp only [Heap.less] at hr ⊢
        have hlt : b' < H.size := by
          rw [Heap.get_set] at hr
          split at hr
          · cases hr
          · exact ho b' row hr
        rw [Heap.get_set, if_neg (by omega), Heap.get_push, Heap.size_set, if_neg (by omega)]
        exact hr
      · intro b' row hr
        rw [Heap.get_push, Heap.size_set] at hr
        rw [Heap.size_push, Heap.size_set]
        split at hr
        · omega
        · rw [Heap.get_set] at hr
          split at hr
          · cases hr
          · have := ho b' row hr
            omega

theorem Acc.arr {H : Heap} (ho : H.ok) {v : Value} {n w : Nat} {cells : List Value} {own : Option Nat} (h : Acc H v n w cells own) : Arr H v n w cells := by
  rcases h with ⟨_, rfl, rfl, rfl⟩ | ⟨b, ty, _, rfl, hb, hl⟩
  · exact .inl ⟨rfl, rfl, .none, rfl, fun x hx => by cases hx⟩
  · exact .inr ⟨b, 0, n, rfl, ho b _ hb, loadN_all hb hl⟩
theorem Keeps.of_less {A H : Heap} {o : Option Nat} (h : Keeps A (H.less o)) : Keeps A H := by
  cases o with
  | none => exact h
  | some b =>
    refine ⟨h.1, fun c row hc => ?_⟩
    have := h.2 c row hc
    simp only [Heap.less] at this
    rw [Heap.get_set] at this
    split at this
    · cases this
    · exact this
theorem Keeps.to_less {A H : Heap} (ho : A.ok) (h : Keeps A H) {o : Option Nat} (hb : ∀ b, o = some b → A.size ≤ b) : Keeps A (H.less o) := by
  cases o with
  | none => exact h
  | some b =>
    refine ⟨h.1, fun c row hc => ?_⟩
    simp only [Heap.less]
    rw [Heap.get_set, if_neg]
    · exact h.2 c row hc
    · have h1 := ho c row hc
      have h2 := hb b rfl
      omega
theorem Acc.keeps {H H' : Heap} (h : Keeps H H') {v : Value} {n w : Nat} {cells : List Value} {own : Option Nat} (k : Acc H v n w cells own) : Acc H' v n w cells own := by
  rcases k with k | ⟨b, ty, h1, h2, h3, h4⟩
  · exact .inl k
  · exact .inr ⟨b, ty, h1, h2, h.2 _ _ h3, h4⟩
theorem Keeps.less_mono {H H' : Heap} (h : Keeps H H') (o : Option Nat) : Keeps (H.less o) (H'.less o) := by
  cases o with
  | none => exact h
  | some b =>
    refine ⟨h.1, fun c row hc => ?_⟩
    simp only [Heap.less] at hc ⊢
    rw [Heap.get_set] at hc ⊢
    split at hc
    · cases hc
    · rename_i hne
      rw [if_neg hne]
      exact h.2 c row hc
/-- What is built stays readable where another row below is given up. -/
theorem Acc.less {H : Heap} (ho : H.ok) {v : Value} {n w : Nat} {cells : List Value} {own : Option Nat} (k : Acc H v n w cells own) {o : Option Nat} (hne : ∀ b, own = some b → o ≠ some b) : Arr (H.less o) v n w cells := by
  rcases k with ⟨_, rfl, rfl, rfl⟩ | ⟨b, ty, e, rfl, hb, hl⟩
  · exact .inl ⟨rfl, rfl, .none, rfl, fun x hx => by cases hx⟩
  · have hg : (H.less o).get b = some ⟨cells, w, true, ty⟩ := by
      cases o with
      | none => exact hb
      | some c =>
        simp only [Heap.less]
        rw [Heap.get_set, if_neg (fun e2 => hne b e (by rw [e2]))]
        exact hb
    exact .inr ⟨b, 0, n, rfl, by cases o <;> exact ho b _ hb, loadN_all hg hl⟩
@[simp] theorem fillM_nil (cells : List Value) : fillM [] cells = some cells := rfl
@[simp] theorem fillM_cons (off size : Nat) (v : Value) (r : List (Nat × Nat × Value)) (cells : List Value) : fillM ((off, size, v) :: r) cells = (match cellsOf v with
    | some cs => if cs.length = size ∧ off + size ≤ cells.length then fillM r (splice cells off cs) else none
    | none => none) := by
  simp only [fillM]
  cases cellsOf v with
  | none => rfl
  | some cs =>
    simp only [cond_eq_ite, Bool.and_eq_true, beq_eq, decide_eq_true_eq, Nat.ble_eq]
attribute [simp] splice reps cellsOf findN_cons
/-- What was looked at reads the same in a heap that holds it. -/
theorem ldOk_keeps {H H' : Heap} (hk : Keeps H H') {b off n : Nat} {cs : List Value} (hl : H.loadN b off n = some cs) (hs : sameVals cs cs = true) : ldOk H' (b, off, n) (seen H (b, off, n)) = true := by
  have hl' := loadN_keeps hk hl
  have hl2 := hl
  unfold Heap.loadN at hl2
  split at hl2
  · rename_i row hrow
    have hrow' := hk.2 b row hrow
    simp only [seen, ldOk, peekAt, hrow, hrow', hl, hl', Option.getD_some, hs, Nat.beq_refl, Bool.and_self]
  · cases hl2
@[simp] theorem chkAct_one {l : List (Nat × (Nat × Nat × Nat) × (List Value × Nat))} {H : Heap} {j : Nat} : chkAct l H [j] = (match findN l j with
    | some (p, ce) => ldOk H p ce
    | none => true) := by
  simp only [chkAct, Bool.and_true]
  rfl

end Go.Proofs.Ytnjmdkecpadehaa.M
