/- The framework N, fifth text: operations that act on the heap. Conditions: as the laws say. -/
import Derived.Test.YtnjmdkecpadehaaN4
set_option linter.all false
set_option linter.unusedSimpArgs false
namespace Go.Proofs.Ytnjmdkecpadehaa.M

/-! ### Splices -/
section
variable {α : Type}
theorem nsplice_left {a b cs : List α} {o : Nat} (h : o + cs.length ≤ a.length) : nsplice (a ++ b) o cs = nsplice a o cs ++ b := by
  unfold nsplice
  rw [List.take_append_of_le_length (by omega), List.drop_append_of_le_length (by omega)]
  simp only [List.append_assoc]
theorem nsplice_right {a b cs : List α} {k : Nat} : nsplice (a ++ b) (a.length + k) cs = a ++ nsplice b k cs := by
  unfold nsplice
  rw [List.take_append, List.take_of_length_le (by omega), List.drop_append, List.drop_of_length_le (by omega), List.nil_append]
  simp only [List.append_assoc]
  congr 1
  rw [show a.length + k - a.length = k by omega, show a.length + k + cs.length - a.length = k + cs.length by omega]
theorem flatten_set {w : Nat} : ∀ {els : List (List α)} {i o : Nat} {el cs : List α}, (∀ el ∈ els, el.length = w) → els[i]? = some el → o + cs.length ≤ w → (els.set i (nsplice el o cs)).flatten = nsplice els.flatten (i * w + o) cs
  | [], i, o, el, cs, _, he, _ => by simp at he
  | a :: l, 0, o, el, cs, h, he, hc => by
    simp only [List.getElem?_cons_zero, Option.some.injEq] at he
    subst he
    rw [List.set_cons_zero, List.flatten_cons, List.flatten_cons, Nat.zero_mul, Nat.zero_add, nsplice_left (by rw [h a (List.mem_cons_self ..)]; exact hc)]
  | a :: l, i + 1, o, el, cs, h, he, hc => by
    simp only [List.getElem?_cons_succ] at he
    have ha := h a (List.mem_cons_self ..)
    rw [List.set_cons_succ, List.flatten_cons, List.flatten_cons, flatten_set (fun el he => h el (List.mem_cons_of_mem _ he)) he hc, show (i + 1) * w + o = a.length + (i * w + o) by rw [ha, Nat.add_mul]; omega, nsplice_right]
theorem flatten_splice {w : Nat} {els new : List (List α)} {j : Nat} (h : ∀ el ∈ els, el.length = w) (h2 : ∀ el ∈ new, el.length = w) : (nsplice els j new).flatten = nsplice els.flatten (j * w) new.flatten := by
  unfold nsplice
  rw [List.flatten_append, List.flatten_append, flatten_take j h, flatten_len h2, ← Nat.add_mul, flatten_drop _ h]
theorem nsplice_length {xs cs : List α} {o : Nat} (h : o + cs.length ≤ xs.length) : (nsplice xs o cs).length = xs.length := by
  unfold nsplice
  rw [List.length_append, List.length_append, List.length_take, List.length_drop]
  omega
theorem nsplice_mem {xs cs : List α} {o : Nat} {x : α} (h : x ∈ nsplice xs o cs) : x ∈ xs ∨ x ∈ cs := by
  unfold nsplice at h
  rw [List.mem_append, List.mem_append] at h
  rcases h with (h | h) | h
  · exact .inl (List.mem_of_mem_take h)
  · exact .inr h
  · exact .inl (List.mem_of_mem_drop h)
theorem L2.splice {β : Type} {Q : α → β → Prop} {xs cs : List α} {us vs : List β} {o : Nat} (h : L2 Q xs us) (k : L2 Q cs vs) : L2 Q (nsplice xs o cs) (us.take o ++ vs ++ us.drop (o + vs.length)) := by
  unfold nsplice
  rw [← k.length]
  exact L2.append (L2.append (h.take o) k) (h.drop _)
end
theorem reps_eq (z : List Value) : ∀ n, reps n z = (List.replicate n z).flatten
  | 0 => rfl
  | n + 1 => by rw [reps, reps_eq z n, List.replicate_succ, List.flatten_cons]
theorem L2.reps {φ : NPhi} {V : View} {z : List NV} {us : List Value} (h : L2 (N0 φ V) z us) : ∀ n, L2 (N0 φ V) (List.replicate n z).flatten (reps n us)
  | 0 => trivial
  | n + 1 => by rw [List.replicate_succ, List.flatten_cons, M.reps]; exact L2.append h (L2.reps h n)

/-! ### Turning the heap -/
section
variable {φ : NPhi} {V K : View} {h : NHeap} {H : Heap}
def bindN (φ : NPhi) (r : Nat) (l : Loc) : NPhi := fun x => if x = r then some l else φ x
theorem SimH.bind_le (sim : SimH φ V K h H) (l : Loc) : φ.le (bindN φ h.nx l) := fun r x e => by
  unfold bindN
  rw [if_neg]
  · exact e
  · intro e2
    subst e2
    rw [sim.fresh _ (Nat.le_refl _)] at e
    cases e
theorem SimH.size_none (sim : SimH φ V K h H) {b : Nat} (hb : H.size ≤ b) : H.get b = none := by
  cases e : H.get b with
  | none => rfl
  | some row => have := sim.ok b row e; omega
theorem SimH.k_none (sim : SimH φ V K h H) {b : Nat} (hb : H.get b = none) : K b = none := by
  cases e : K b with
  | none => rfl
  | some row => have := sim.kh b row e; rw [hb] at this; cases this
theorem SimH.push (sim : SimH φ V K h H) {row : NRow} {cells : List Value} {ty : Option Nat} (h1 : L2 (N0 φ V) row.els.flatten cells) (h2 : ∀ el ∈ row.els, el.length = row.w) (h3 : ∀ t, row.ty = some t → ty = some t) :
    SimH (bindN φ h.nx (.at H.size row.w)) V K (h.push row) (H.push ⟨cells, row.es, row.own, ty⟩) := by
  have hle := sim.bind_le (.at H.size row.w)
  refine ⟨Heap.ok_push sim.ok _, sim.vk, fun b row e => (Keeps.push sim.ok _).2 _ _ (sim.kh _ _ e), fun r row' e => ?_, fun r r' b w w' e1 e2 e3 e4 => ?_, fun r hr => ?_⟩
  · rw [NHeap.get_push] at e
    by_cases hr : r = h.nx
    · rw [if_pos hr] at e
      cases e
      subst hr
      right
      refine ⟨H.size, by simp [bindN], ⟨cells, ty, by rw [Heap.get_push, if_pos rfl], h1.imp fun _ _ => N0.mono hle (View.le_refl _), h2, h3⟩, sim.k_none (sim.size_none (Nat.le_refl _))⟩
    · rw [if_neg hr] at e
      rcases sim.rows r row' e with ⟨p, q⟩ | ⟨b, p, q, q2⟩
      · exact .inl ⟨hle _ _ p, q⟩
      · refine .inr ⟨b, hle _ _ p, q.mono hle (View.le_refl _) ?_, q2⟩
        obtain ⟨c, t, q, _⟩ := q
        have := sim.ok _ _ q
        rw [Heap.get_push, if_neg (by omega)]
  · have key : ∀ r b w, bindN φ h.nx (.at H.size row.w) r = some (.at b w) → (h.push row).get r ≠ none → (r = h.nx ∧ b = H.size) ∨ (r ≠ h.nx ∧ φ r = some (.at b w) ∧ h.get r ≠ none ∧ b < H.size) := fun r b w e1 e2 => by
      unfold bindN at e1
      by_cases hr : r = h.nx
      · rw [if_pos hr] at e1
        cases e1
        exact .inl ⟨hr, rfl⟩
      · rw [if_neg hr] at e1
        rw [NHeap.get_push, if_neg hr] at e2
        refine .inr ⟨hr, e1, e2, ?_⟩
        cases hg : h.get r with
        | none => exact absurd hg e2
        | some row' =>
          obtain ⟨_, ⟨c, t, q, _⟩, _⟩ := sim.row_at hg e1
          exact sim.ok _ _ q
    rcases key r b w e1 e3 with ⟨a1, a2⟩ | ⟨a1, a2, a3, a4⟩ <;> rcases key r' b w' e2 e4 with ⟨b1, b2⟩ | ⟨b1, b2, b3, b4⟩
    · rw [a1, b1]
    · omega
    · omega
    · exact sim.inj r r' b w w' a2 b2 a3 b3
  · simp only [NHeap.push] at hr
    unfold bindN
    rw [if_neg (by omega)]
    exact sim.fresh r (by omega)
theorem SimH.push_ext (sim : SimH φ V K h H) (row : NRow) (mrow : Row) : Ext φ V K H (bindN φ h.nx (.at H.size row.w)) V K (H.push mrow) :=
  ⟨sim.bind_le _, View.le_refl _, View.le_refl _, by rw [Heap.size_push]; omega, fun _ _ h => .inr h⟩
theorem Heap.ok_set {H : Heap} (ho : H.ok) {b : Nat} {row : Row} (hb : H.get b = some row) (x : Option Row) : (H.set b x).ok := fun c r e => by
  rw [Heap.get_set] at e
  rw [Heap.size_set]
  by_cases hc : c = b
  · subst hc; exact ho _ _ hb
  · rw [if_neg hc] at e
    exact ho _ _ e
theorem SimH.set (sim : SimH φ V K h H) {r b w : Nat} {row : NRow} {mrow : Row} (hg : h.get r = some row) (hp : φ r = some (.at b w)) (hm : H.get b = some mrow) {els : List (List NV)} {cells : List Value} (h1 : L2 (N0 φ V) els.flatten cells) (h2 : ∀ el ∈ els, el.length = row.w) :
    SimH φ V K (h.set r { row with els := els }) (H.set b (some { mrow with cells := cells })) := by
  obtain ⟨hw, ⟨c0, ty, q1, q2, q3, q4⟩, hk⟩ := sim.row_at hg hp
  subst hw
  rw [q1] at hm
  cases hm
  refine ⟨Heap.ok_set sim.ok q1 _, sim.vk, fun c row' e => ?_, fun r' row' e => ?_, fun r1 r2 b' w w' e1 e2 e3 e4 => ?_, fun r' hr => sim.fresh r' hr⟩
  · rw [Heap.get_set]
    by_cases hc : c = b
    · subst hc; rw [hk] at e; cases e
    · rw [if_neg hc]; exact sim.kh _ _ e
  · rw [NHeap.get_set] at e
    by_cases hr : r' = r
    · subst hr
      rw [if_pos rfl, hg] at e
      cases e
      exact .inr ⟨b, hp, ⟨cells, ty, by rw [Heap.get_set, if_pos rfl], h1, h2, q4⟩, hk⟩
    · rw [if_neg hr] at e
      rcases sim.rows r' row' e with ⟨p, q⟩ | ⟨b2, p, q, q2⟩
      · exact .inl ⟨p, q⟩
      · refine .inr ⟨b2, p, q.mono (NPhi.le_refl _) (View.le_refl _) ?_, q2⟩
        rw [Heap.get_set, if_neg]
        intro e9
        subst e9
        exact hr (sim.inj _ _ _ _ _ p hp (by rw [e]; simp) (by rw [hg]; simp))
  · have key : ∀ r1, (h.set r { row with els := els }).get r1 ≠ none → h.get r1 ≠ none := fun r1 e => by
      rw [NHeap.get_set] at e
      by_cases hr : r1 = r
      · subst hr; rw [hg]; simp
      · rw [if_neg hr] at e; exact e
    exact sim.inj _ _ _ _ _ e1 e2 (key _ e3) (key _ e4)
theorem SimH.set_get (sim : SimH φ V K h H) {r b w r' b' w' : Nat} {row row' : NRow} (hg : h.get r = some row) (hp : φ r = some (.at b w)) (hg' : h.get r' = some row') (hp' : φ r' = some (.at b' w')) (hne : r' ≠ r) (x : Option Row) : (H.set b x).get b' = H.get b' := by
  rw [Heap.get_set, if_neg]
  intro e
  subst e
  exact hne (sim.inj _ _ _ _ _ hp' hp (by rw [hg']; simp) (by rw [hg]; simp))
/-- A smaller heap. -/
def NHeap.sub (h h2 : NHeap) : Prop := h.nx = h2.nx ∧ ∀ r row, h.get r = some row → h2.get r = some row
theorem SimH.sub {h2 : NHeap} (sim : SimH φ V K h H) (k : h2.sub h) : SimH φ V K h2 H :=
  ⟨sim.ok, sim.vk, sim.kh, fun r row e => sim.rows r row (k.2 _ _ e), fun r r' b w w' e1 e2 e3 e4 => by
    have key : ∀ r, h2.get r ≠ none → h.get r ≠ none := fun r e => by
      cases hg : h2.get r with
      | none => exact absurd hg e
      | some row => rw [k.2 _ _ hg]; simp
    exact sim.inj r r' b w w' e1 e2 (key _ e3) (key _ e4), fun r hr => sim.fresh r (by rw [← k.1]; exact hr)⟩
theorem NHeap.del_sub (h : NHeap) (r : Nat) : (h.del r).sub h := ⟨rfl, fun r' row e => by
  rw [NHeap.get_del] at e
  by_cases hr : r' = r
  · rw [if_pos hr] at e; cases e
  · rw [if_neg hr] at e; exact e⟩
theorem SimH.kill (sim : SimH φ V K h H) {r b w : Nat} {row : NRow} (hg : h.get r = some row) (hp : φ r = some (.at b w)) : SimH φ V K (h.del r) (H.set b none) := by
  obtain ⟨hw, ⟨c0, ty, q1, q2, q3, q4⟩, hk⟩ := sim.row_at hg hp
  have s2 := sim.sub (h.del_sub r)
  refine ⟨Heap.ok_set sim.ok q1 _, sim.vk, fun c row' e => ?_, fun r' row' e => ?_, s2.inj, s2.fresh⟩
  · rw [Heap.get_set]
    by_cases hc : c = b
    · subst hc; rw [hk] at e; cases e
    · rw [if_neg hc]; exact sim.kh _ _ e
  · have e0 := e
    rw [NHeap.get_del] at e
    by_cases hr : r' = r
    · rw [if_pos hr] at e; cases e
    · rw [if_neg hr] at e
      rcases sim.rows r' row' e with ⟨p, q⟩ | ⟨b2, p, q, q2⟩
      · exact .inl ⟨p, q⟩
      · exact .inr ⟨b2, p, q.mono (NPhi.le_refl _) (View.le_refl _) (sim.set_get hg hp e p hr _), q2⟩
end

/-! ### Bytes and parts -/
section
variable {φ : NPhi} {V : View}
theorem bytes_sound (s : ByteArray) : L2 (N0 φ V) (bytesN s).flatten (bytesV s) := by
  unfold bytesN bytesV
  generalize s.data.toList = l
  induction l with
  | nil => exact trivial
  | cons a l ih => exact ⟨⟨rfl, rfl⟩, ih⟩
theorem bytes_w (s : ByteArray) : ∀ el ∈ bytesN s, el.length = 1 := by
  intro el h
  unfold bytesN at h
  rw [List.mem_map] at h
  obtain ⟨b, _, rfl⟩ := h
  rfl
theorem bytes_len (s : ByteArray) : (bytesN s).length = s.size := by
  unfold bytesN
  rw [List.length_map, Array.length_toList]
  rfl
theorem nstr_sound : ∀ {els : List (List NV)} {us : List Value} {l : List UInt8}, nstr els = some l → L2 (N0 φ V) els.flatten us → strV us = some l
  | [], us, l, h, k => by cases h; rw [k.nil_left]; rfl
  | el :: r, us, l, h, k => by
    unfold nstr at h
    split at h
    · rename_i hh; cases hh
    · rename_i n r' hh
      cases hh
      split at h <;> cases h
      rename_i h1
      obtain ⟨b, y, rfl, ⟨rfl, _⟩, k2⟩ := k.cons_left
      simp only [strV, nstr_sound h1 k2]
    · cases h
theorem nfillE_sound {es : Nat} : ∀ {ps : List (Nat × NV)} {qs : List (Nat × Nat × Value)} {els out : List (List NV)} {us : List Value}, L2 (fun (a : Nat × NV) (b : Nat × Nat × Value) => b.1 = a.1 * es ∧ b.2.1 = es ∧ N3 φ V a.2 b.2.2) ps qs → L2 (N0 φ V) els.flatten us → (∀ el ∈ els, el.length = es) → nfillE es ps els = some out →
    ∃ vs, fillM qs us = some vs ∧ L2 (N0 φ V) out.flatten vs ∧ (∀ el ∈ out, el.length = es) ∧ out.length = els.length
  | [], [], els, out, us, _, hc, hw, h => by cases h; exact ⟨us, rfl, hc, hw, rfl⟩
  | (i, x) :: ps, (off, size, u) :: qs, els, out, us, hp, hc, hw, h => by
    obtain ⟨⟨e1, e2, hx⟩, hp⟩ := hp
    simp only at e1 e2 hx
    subst e1 e2
    simp only [nfillE] at h
    split at h
    · rename_i cs h1
      obtain ⟨vs, e3, k3⟩ := ncells_sound hx h1
      split at h
      · rename_i h2
        have l1 := k3.length
        have l2 := hc.length
        rw [flatten_len hw] at l2
        have hi : (i + 1) * size ≤ els.length * size := Nat.mul_le_mul_right _ h2.2
        rw [Nat.add_mul] at hi
        have hel : els[i]? = some els[i] := List.getElem?_eq_getElem h2.2
        have hst : nsplice els[i] 0 cs = cs := by
          unfold nsplice
          rw [List.take_zero, List.nil_append, List.drop_of_length_le (by rw [hw _ (List.getElem_mem h2.2)]; omega), List.append_nil]
        have hfl := flatten_set (cs := cs) (o := 0) hw hel (by omega)
        rw [hst, Nat.add_zero] at hfl
        have hw2 : ∀ el ∈ els.set i cs, el.length = size := fun el he => by
          rcases List.mem_or_eq_of_mem_set he with h9 | h9
          · exact hw _ h9
          · rw [h9]; exact h2.1
        obtain ⟨ws, e4, k4, k5, k6⟩ := nfillE_sound hp (us := M.splice us (i * size) vs) (by
          rw [hfl]
          exact hc.splice k3) hw2 h
        refine ⟨ws, ?_, k4, k5, by rw [k6, List.length_set]⟩
        simp only [fillM, e3, cond_eq_ite, Bool.and_eq_true, beq_eq, decide_eq_true_eq, Nat.ble_eq]
        rw [if_pos ⟨by omega, by omega⟩]
        exact e4
      · cases h
    · cases h
  | [], _ :: _, _, _, _, hp, _, _, _ => hp.elim
  | _ :: _, [], _, _, _, hp, _, _, _ => hp.elim
theorem map_cells_w (s : Sh) (l : List (Dat s)) : ∀ el ∈ l.map (cellsN s), el.length = s.width := by
  intro el h
  rw [List.mem_map] at h
  obtain ⟨x, _, rfl⟩ := h
  exact cellsN_length s x
theorem nnew_sound {K : View} {h : NHeap} {H : Heap} (sim : SimH φ V K h H) {es : Nat} {x : NV} {u : Value} {els : List (List NV)} (hx : N3 φ V x u) (hn : nnew h es x = some els) :
    ∃ cs, newOf H es u = some (cs, els.length) ∧ L2 (N0 φ V) els.flatten cs ∧ ∀ el ∈ els, el.length = es := by
  unfold nnew at hn
  split at hn
  · cases hn
    obtain rfl := hx.nils
    exact ⟨[], rfl, trivial, fun _ h => by cases h⟩
  · cases hn
    obtain ⟨b, off, row, rfl, q1, _⟩ := hx.emp
    refine ⟨[], ?_, trivial, fun _ h => by cases h⟩
    have hH : H.get b = some row := sim.kh _ _ (sim.vk _ _ q1)
    simp only [newOf, Nat.zero_mul, loadN_of hH, List.take_zero, List.length_nil, if_true]
  · rename_i r i n c
    cases hg : h.get r with
    | none => rw [hg] at hn; cases hn
    | some row =>
      rw [hg] at hn
      simp only [nnewR] at hn
      split at hn <;> cases hn
      rename_i hh
      obtain ⟨rfl, hin⟩ := hh
      have hlen : ((row.els.drop i).take n).length = n := by rw [List.length_take, List.length_drop]; omega
      rcases hx.sl with ⟨p, rfl, rfl, _, rfl⟩ | ⟨b, w, p, rfl⟩
      · exact ⟨[], rfl, by simp [L2], fun _ h => by simp at h⟩
      · obtain ⟨rfl, ⟨cells, ty, g1, g2, g3, g4⟩, _⟩ := sim.row_at hg p
        have hfl : ((row.els.drop i).take n).flatten = (row.els.flatten.drop (i * row.w)).take (n * row.w) := by
          rw [flatten_drop i g3, flatten_take n (fun el he => g3 el (List.mem_of_mem_drop he))]
        have hl2 := (g2.drop (i * row.w)).take (n * row.w)
        rw [← hfl] at hl2
        have hl := hl2.length
        rw [flatten_len (w := row.w) (fun el he => g3 el (List.mem_of_mem_drop (List.mem_of_mem_take he))), hlen] at hl
        refine ⟨_, ?_, hl2, fun el he => g3 el (List.mem_of_mem_drop (List.mem_of_mem_take he))⟩
        simp only [newOf, loadN_of g1, ← hl, if_true, hlen]
  · rename_i s l
    split at hn <;> cases hn
    rename_i hes
    subst hes
    unfold elsN
    obtain ⟨cells, ha, hd⟩ := hx.fsl
    have hl2 : L2 (N0 φ V) (l.map (cellsN s)).flatten cells := by
      have := hd.l2 (φ := φ)
      rwa [List.flatMap_def] at this
    refine ⟨cells, ?_, hl2, map_cells_w s l⟩
    rcases ha with ⟨h0, h00, a, rfl, ha⟩ | ⟨b, off, c, row, rfl, g1, g2, g3, g4, g5⟩
    · rw [h00, List.length_map, h0]
      cases a with
      | none => rfl
      | some a =>
        obtain ⟨b, off, sp⟩ := a
        obtain rfl : sp = none := ha _ rfl
        simp only [newOf, Nat.zero_mul]
        unfold Heap.loadN
        cases H.get b with
        | none => rfl
        | some row => simp
    · have hH : H.get b = some row := sim.kh _ _ (sim.vk _ _ g1)
      have hlen : ((row.cells.drop off).take (List.length l * s.width)).length = List.length l * s.width := by rw [List.length_take, List.length_drop]; omega
      simp only [newOf, loadN_of hH, hlen, if_true, List.length_map, g5]
  · split at hn <;> cases hn
    rename_i s hes
    subst hes
    obtain ⟨rfl, _⟩ := hx.v
    exact ⟨bytesV s, by rw [bytes_len]; rfl, bytes_sound s, bytes_w s⟩
  · cases hn
end
end Go.Proofs.Ytnjmdkecpadehaa.M
