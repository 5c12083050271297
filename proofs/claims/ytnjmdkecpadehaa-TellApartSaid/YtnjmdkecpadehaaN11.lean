/- The framework N, eleventh text: frames, renewed numbers, what is begun and frozen on the way. Conditions: as the laws say. -/
import Derived.Test.YtnjmdkecpadehaaN10
set_option linter.all false
set_option linter.unusedSimpArgs false
namespace Go.Proofs.Ytnjmdkecpadehaa.M

section
variable {F : Nat → Option Fun}
theorem getR_append (l2 : List (Nat × NRow)) (r : Nat) : ∀ l1, getR (l1 ++ l2) r = match getR l1 r with
    | some row => some row
    | none => getR l2 r
  | [] => rfl
  | (k, row) :: l => by
    simp only [List.cons_append, getR]
    by_cases e : k = r
    · simp only [if_pos e]
    · simp only [if_neg e]; exact getR_append l2 r l
/-- Heaps that tell the same. -/
theorem NCall.congr {f : Nat} {vs : List NV} {h h2 : NHeap} {Q : NV → NHeap → Prop} (hn : h2.nx = h.nx) (hg : ∀ r row, h2.get r = some row → h.get r = some row) (k : NCall F f vs h2 Q) : NCall F f vs h Q := fun φ V K H us sim hv => k φ V K H us (sim.sub ⟨hn, hg⟩) hv
theorem NWp.congr {c : C} {e e2 : NEnv} {h h2 : NHeap} {Q : Out → NEnv → NHeap → Prop} (hn : h2.nx = h.nx) (hg : ∀ r row, h2.get r = some row → h.get r = some row) (he : ∀ t x, nlook e2 t = some x → nlook e t = some x) (k : NWp F c e2 h2 Q) : NWp F c e h Q := fun φ V K H em sim hv => k φ V K H em (sim.sub ⟨hn, hg⟩) fun t x e => hv t x (he t x e)
open Classical in
theorem NCall.frame_core {f : Nat} {vs : List NV} {nx : Nat} {l1 l2 : List (Nat × NRow)} {Q : NV → NHeap → Prop} (k : NCall F f vs ⟨nx, l1⟩ Q) (hd : ∀ r, getR l1 r ≠ none → getR l2 r = none) : ∀ φ V KV H us, SimH φ V KV ⟨nx, l1 ++ l2⟩ H → L2 (N3 φ V) vs us → Cw F f us H fun u H' => ∃ φ' V' K' h' w, Ext φ V KV H φ' V' K' H' ∧ SimH φ' V' K' ⟨h'.nx, h'.rows ++ l2⟩ H' ∧ N3 φ' V' w u ∧ (∀ r row b w, getR l2 r = some row → φ r = some (.at b w) → H'.get b = H.get b) ∧ Q w h' := by
  intro φ V KV H us sim hv
  have get12 : ∀ r row, getR l2 r = some row → (⟨nx, l1 ++ l2⟩ : NHeap).get r = some row := fun r row e => by
    simp only [NHeap.get, getR_append]
    cases e1 : getR l1 r with
    | none => exact e
    | some x => rw [hd r (by rw [e1]; simp)] at e; cases e
  let B : Nat → Prop := fun b => ∃ r row w, getR l2 r = some row ∧ φ r = some (.at b w)
  let K1 : View := fun b => if B b then H.get b else KV b
  have hB : ∀ b, B b → ∃ row, H.get b = some row ∧ KV b = none := fun b ⟨r, row, w, e1, e2⟩ => by
    obtain ⟨_, ⟨c, t, q, _⟩, hk⟩ := sim.row_at (get12 r row e1) e2
    exact ⟨_, q, hk⟩
  have hsub : (⟨nx, l1⟩ : NHeap).sub ⟨nx, l1 ++ l2⟩ := ⟨rfl, fun r row e => by
    simp only [NHeap.get] at e ⊢
    rw [getR_append, e]⟩
  have s1 := sim.sub hsub
  have hnotB : ∀ r row b w, getR l1 r = some row → φ r = some (.at b w) → ¬ B b := fun r row b w e1 e2 ⟨r', row', w', e3, e4⟩ => by
    have := sim.inj r r' b w w' e2 e4 (by rw [hsub.2 r row e1]; simp) (by rw [get12 r' row' e3]; simp)
    subst this
    rw [hd r (by rw [e1]; simp)] at e3
    cases e3
  have hKK1 : KV.le K1 := fun b row e => by
    simp only [K1]
    by_cases hb : B b
    · obtain ⟨_, _, h2⟩ := hB b hb; rw [h2] at e; cases e
    · rw [if_neg hb]; exact e
  have sim1 : SimH φ V K1 ⟨nx, l1⟩ H := ⟨s1.ok, sim.vk.trans hKK1, fun b row e => by
    simp only [K1] at e
    split at e
    · exact e
    · exact sim.kh _ _ e, fun r row e => by
      rcases s1.rows r row e with ⟨p, q⟩ | ⟨b, p, q, q2⟩
      · exact .inl ⟨p, q⟩
      · refine .inr ⟨b, p, q, ?_⟩
        simp only [K1]
        rw [if_neg (hnotB r row b _ e p)]
        exact q2, s1.inj, s1.fresh⟩
  refine (k φ V K1 H us sim1 hv).mono fun u H' ⟨φ', V', K', h', w, c1, c2, c3, c4⟩ => ?_
  let K2 : View := fun b => if B b then none else K' b
  have hBH : ∀ b, B b → ∃ row, H.get b = some row ∧ H'.get b = some row ∧ K' b = some row := fun b hb => by
    obtain ⟨row, e1, _⟩ := hB b hb
    have : K1 b = some row := by simp only [K1]; rw [if_pos hb]; exact e1
    exact ⟨row, e1, c2.kh _ _ (c1.k _ _ this), c1.k _ _ this⟩
  have hVB : ∀ b row, V' b = some row → ¬ B b := fun b row e hb => by
    obtain ⟨row', e1, e2⟩ := hB b hb
    rcases c1.new b row e with g | g
    · simp only [K1] at g
      rw [if_pos hb, e1] at g
      cases g
    · have := sim.vk _ _ g
      rw [e2] at this
      cases this
  have hrows2 : ∀ r row, getR l2 r = some row → (φ' r = some .nil ∧ row.els = [] ∧ row.own = true) ∨ ∃ b, φ' r = some (.at b row.w) ∧ NRowR φ' V' H' row b ∧ B b := fun r row e => by
    rcases sim.rows r row (get12 r row e) with ⟨p, q⟩ | ⟨b, p, q, q2⟩
    · exact .inl ⟨c1.phi _ _ p, q⟩
    · have hb : B b := ⟨r, row, row.w, e, p⟩
      obtain ⟨x, e1, e2, _⟩ := hBH b hb
      exact .inr ⟨b, c1.phi _ _ p, q.mono c1.phi c1.v (by rw [e1, e2]), hb⟩
  have hsplit : ∀ r row, (⟨h'.nx, h'.rows ++ l2⟩ : NHeap).get r = some row → h'.get r = some row ∨ (h'.get r = none ∧ getR l2 r = some row) := fun r row e => by
    simp only [NHeap.get, getR_append] at e ⊢
    cases e1 : getR h'.rows r with
    | none => rw [e1] at e; exact .inr ⟨rfl, e⟩
    | some x => rw [e1] at e; exact .inl e
  have hblk1 : ∀ r row b w, h'.get r = some row → φ' r = some (.at b w) → ¬ B b := fun r row b w e1 e2 hb => by
    obtain ⟨_, _, hk⟩ := c2.row_at e1 e2
    obtain ⟨_, _, _, e3⟩ := hBH b hb
    rw [hk] at e3
    cases e3
  refine ⟨φ', V', K2, h', w, ⟨c1.phi, c1.v, fun b row e => ?_, c1.size, fun b row e => ?_⟩, ⟨c2.ok, fun b row e => ?_, fun b row e => ?_, fun r row e => ?_, fun r r' b w w' e1 e2 e3 e4 => ?_, c2.fresh⟩, c3, fun r row b w hg2 hp => ?_, c4⟩
  · simp only [K2]
    rw [if_neg]
    · exact c1.k _ _ (hKK1 _ _ e)
    · intro hb; obtain ⟨_, _, g⟩ := hB b hb; rw [g] at e; cases e
  · rcases c1.new b row e with g | g
    · left
      cases e2 : KV b with
      | none => rfl
      | some x => have := hKK1 _ _ e2; rw [g] at this; cases this
    · exact .inr g
  · simp only [K2]
    rw [if_neg (hVB b row e)]
    exact c2.vk _ _ e
  · simp only [K2] at e
    split at e
    · cases e
    · exact c2.kh _ _ e
  · rcases hsplit r row e with e | ⟨_, e⟩
    · rcases c2.rows r row e with ⟨p, q⟩ | ⟨b, p, q, q2⟩
      · exact .inl ⟨p, q⟩
      · refine .inr ⟨b, p, q, ?_⟩
        simp only [K2, q2, ite_self]
    · rcases hrows2 r row e with q | ⟨b, p, q, hb⟩
      · exact .inl q
      · refine .inr ⟨b, p, q, ?_⟩
        simp only [K2]
        rw [if_pos hb]
  · have val : ∀ r, (⟨h'.nx, h'.rows ++ l2⟩ : NHeap).get r ≠ none → ∃ row, (⟨h'.nx, h'.rows ++ l2⟩ : NHeap).get r = some row := fun r e => by
      cases g : (⟨h'.nx, h'.rows ++ l2⟩ : NHeap).get r with
      | none => exact absurd g e
      | some row => exact ⟨row, rfl⟩
    obtain ⟨row, g1⟩ := val r e3
    obtain ⟨row', g2⟩ := val r' e4
    rcases hsplit r row g1 with g1 | ⟨_, g1⟩ <;> rcases hsplit r' row' g2 with g2 | ⟨_, g2⟩
    · exact c2.inj r r' b w w' e1 e2 (by rw [g1]; simp) (by rw [g2]; simp)
    · exfalso
      rcases hrows2 r' row' g2 with ⟨p, _⟩ | ⟨b', p, _, hb⟩
      · rw [e2] at p; cases p
      · rw [e2] at p; cases p
        exact hblk1 r row b w g1 e1 hb
    · exfalso
      rcases hrows2 r row g1 with ⟨p, _⟩ | ⟨b', p, _, hb⟩
      · rw [e1] at p; cases p
      · rw [e1] at p; cases p
        exact hblk1 r' row' b w' g2 e2 hb
    · have old : ∀ r row b w, getR l2 r = some row → φ' r = some (.at b w) → φ r = some (.at b w) := fun r row b w g p => by
        rcases sim.rows r row (get12 r row g) with ⟨p2, _⟩ | ⟨b2, p2, _⟩
        · rw [c1.phi _ _ p2] at p; cases p
        · have := c1.phi _ _ p2
          rw [this] at p
          cases p
          exact p2
      exact sim.inj r r' b w w' (old r row b w g1 e1) (old r' row' b w' g2 e2) (by rw [get12 r row g1]; simp) (by rw [get12 r' row' g2]; simp)
  · obtain ⟨x, e1, e2, _⟩ := hBH b ⟨r, row, w, hg2, hp⟩
    rw [e1, e2]
/-- A call to which some rows are handed; the others stay. -/
theorem NCall.frame {f : Nat} {vs : List NV} {nx : Nat} {l1 l2 : List (Nat × NRow)} {Q K : NV → NHeap → Prop} (k : NCall F f vs ⟨nx, l1⟩ Q) (hd : ∀ r, getR l1 r ≠ none → getR l2 r = none) (hq : ∀ w h, Q w h → K w ⟨h.nx, h.rows ++ l2⟩) : NCall F f vs ⟨nx, l1 ++ l2⟩ K := fun φ V KV H us sim hv =>
  (NCall.frame_core k hd φ V KV H us sim hv).mono fun u H' ⟨φ', V', K', h', w, c1, c2, c3, _, c4⟩ => ⟨φ', V', K', _, w, c1, c2, c3, hq _ _ c4⟩
theorem NCall.frameT {f : Nat} {vs : List NV} {nx : Nat} {l1 l2 : List (Nat × NRow)} {Q K : NV → NHeap → Prop} (k : NCall F f vs ⟨nx, l1⟩ Q) (hd : ∀ r, getR l1 r ≠ none → getR l2 r = none) {T : List Nat} (hT : ∀ r, r ∉ T → getR l1 r = none) (hnew : ∀ w h, Q w h → nx ≤ h.nx ∧ ∀ r, r ∉ T → r < nx → h.get r = none) (hq : ∀ w h, Q w h → K w ⟨h.nx, h.rows ++ l2⟩) : NCallT F f vs ⟨nx, l1 ++ l2⟩ T true K := fun φ V KV H us sim hv =>
  (NCall.frame_core k hd φ V KV H us sim hv).mono fun u H' ⟨φ', V', K', h', w, c1, c2, c3, c5, c4⟩ => by
    refine ⟨φ', V', K', _, w, c1, c2, c3, ⟨fun r row b w hg hp hr => ?_, fun r hr hlt => ?_, (hnew _ _ c4).1⟩, fun e => (by cases e), hq _ _ c4⟩
    · have h1 := hT r hr
      have hg2 : getR l2 r = some row := by
        simp only [NHeap.get, getR_append, h1] at hg
        exact hg
      exact c5 r row b w hg2 hp
    · have h1 := hT r hr
      have h2 := (hnew w h' c4).2 r hr hlt
      simp only [NHeap.get] at h2
      simp only [NHeap.get, getR_append, h1, h2]
/-! ### Numbers of rows anew -/
def low0 (n : Nat) : NV → Bool
  | .sl r _ _ _ => decide (r < n)
  | .ptr r _ _ => decide (r < n)
  | _ => true
def low1 (n : Nat) : NV → Bool
  | .agg cs => cs.all (low0 n)
  | x => low0 n x
def low (n : Nat) : NV → Bool
  | .tup cs => cs.all (low1 n)
  | .fn _ cs => cs.all (low1 n)
  | x => low1 n x
def cutN (φ : NPhi) (n : Nat) : NPhi := fun r => if r < n then φ r else none
section
variable {φ : NPhi} {V : View} {n : Nat}
theorem N0.cut {x : NV} {u : Value} (hf : low0 n x = true) (h : N0 φ V x u) : N0 (cutN φ n) V x u := by
  cases x <;> try exact h
  case sl r i m c =>
    simp only [low0, decide_eq_true_eq] at hf
    rcases N3.sl (φ := φ) (.of0 h) with ⟨p, q⟩ | ⟨b, w, p, q⟩
    · exact .inl ⟨by simp only [cutN, if_pos hf, p], q⟩
    · exact .inr ⟨b, w, by simp only [cutN, if_pos hf, p], q⟩
  case ptr r i o =>
    simp only [low0, decide_eq_true_eq] at hf
    obtain ⟨b, w, p, q⟩ := N3.ptr (φ := φ) (.of0 h)
    exact ⟨b, w, by simp only [cutN, if_pos hf, p], q⟩
theorem L2.cut0 : ∀ {l : List NV} {us : List Value}, l.all (low0 n) = true → L2 (N0 φ V) l us → L2 (N0 (cutN φ n) V) l us
  | [], us, _, h => by rw [h.nil_left]; exact trivial
  | a :: l, us, h1, h2 => by
    obtain ⟨b, y', rfl, g1, g2⟩ := h2.cons_left
    simp only [List.all_cons, Bool.and_eq_true] at h1
    exact ⟨N0.cut h1.1 g1, L2.cut0 h1.2 g2⟩
theorem N1.cut {x : NV} {u : Value} (hf : low1 n x = true) (h : N1 φ V x u) : N1 (cutN φ n) V x u := by
  cases x with
  | agg cs => obtain ⟨a, h1, h2⟩ := h; exact ⟨a, h1, L2.cut0 hf h2⟩
  | _ => (simp only [N1] at h ⊢; simp only [low1] at hf; exact N0.cut hf h)
theorem L2.cut1 : ∀ {l : List NV} {us : List Value}, l.all (low1 n) = true → L2 (N1 φ V) l us → L2 (N1 (cutN φ n) V) l us
  | [], us, _, h => by rw [h.nil_left]; exact trivial
  | a :: l, us, h1, h2 => by
    obtain ⟨b, y', rfl, g1, g2⟩ := h2.cons_left
    simp only [List.all_cons, Bool.and_eq_true] at h1
    exact ⟨N1.cut h1.1 g1, L2.cut1 h1.2 g2⟩
theorem N3.cut {x : NV} {u : Value} (hf : low n x = true) (h : N3 φ V x u) : N3 (cutN φ n) V x u := by
  cases x with
  | tup cs => obtain ⟨a, h1, h2⟩ := h; exact ⟨a, h1, L2.cut1 hf h2⟩
  | fn f cs => obtain ⟨a, h1, h2⟩ := h; exact ⟨a, h1, L2.cut1 hf h2⟩
  | _ => (simp only [N3, N2] at h ⊢; simp only [low] at hf; exact N1.cut hf h)
end
/-- The rows that a call has made for itself are forgotten. -/
def Renew (n : Nat) (Q : NV → NHeap → Prop) (w : NV) (h : NHeap) : Prop := ∃ h2, h2.nx = n ∧ (∀ r row, h2.get r = some row → r < n ∧ h.get r = some row ∧ row.els.all (fun el => el.all (low0 n)) = true) ∧ low n w = true ∧ Q w h2
theorem NCall.renew {f : Nat} {vs : List NV} {h : NHeap} {Q : NV → NHeap → Prop} (k : NCall F f vs h (Renew h.nx Q)) : NCall F f vs h Q := fun φ V K H us sim hv =>
  (k φ V K H us sim hv).mono fun u H' ⟨φ', V', K', h', w, c1, c2, c3, h2, d1, d2, d3, d4⟩ => by
    have hle : φ.le (cutN φ' h.nx) := fun r l e => by
      have hr : r < h.nx := by
        rcases Nat.lt_or_ge r h.nx with g | g
        · exact g
        · rw [sim.fresh r g] at e; cases e
      simp only [cutN, if_pos hr]
      exact c1.phi _ _ e
    refine ⟨cutN φ' h.nx, V', K', h2, w, ⟨hle, c1.v, c1.k, c1.size, c1.new⟩, ⟨c2.ok, c2.vk, c2.kh, fun r row e => ?_, fun r r' b w w' e1 e2 e3 e4 => ?_, fun r hr => ?_⟩, c3.cut d3, d4⟩
    · obtain ⟨q1, q2, q3⟩ := d2 r row e
      rcases c2.rows r row q2 with ⟨p, q⟩ | ⟨b, p, ⟨cells, ty, g1, g2, g3, g4⟩, q5⟩
      · exact .inl ⟨by simp only [cutN, if_pos q1, p], q⟩
      · refine .inr ⟨b, by simp only [cutN, if_pos q1, p], ⟨cells, ty, g1, L2.cut0 ?_ g2, g3, g4⟩, q5⟩
        rw [List.all_eq_true] at q3 ⊢
        intro x hx
        rw [List.mem_flatten] at hx
        obtain ⟨el, h1, h3⟩ := hx
        exact List.all_eq_true.1 (q3 el h1) x h3
    · have lt : ∀ r b w, cutN φ' h.nx r = some (.at b w) → φ' r = some (.at b w) := fun r b w e => by
        unfold cutN at e
        split at e
        · exact e
        · cases e
      have nn : ∀ r, h2.get r ≠ none → h'.get r ≠ none := fun r e => by
        cases g : h2.get r with
        | none => exact absurd g e
        | some row => rw [(d2 r row g).2.1]; simp
      exact c2.inj r r' b w w' (lt _ _ _ e1) (lt _ _ _ e2) (nn _ e3) (nn _ e4)
    · rw [d1] at hr
      simp only [cutN, if_neg (Nat.not_lt.2 hr)]
/-! ### On the way -/
def nset : NEnv → Nat → NV → NEnv
  | [], _, _ => []
  | (k, v) :: r, t, x => if k = t then (k, x) :: r else (k, v) :: nset r t x
theorem nlook_nset {t : Nat} {x : NV} {s : Nat} : ∀ {e : NEnv}, nlook (nset e t x) s = if s = t then (nlook e s).map (fun _ => x) else nlook e s
  | [] => by simp [nset, nlook]
  | (k, v) :: r => by
    simp only [nset]
    by_cases hk : k = t
    · subst hk
      rw [if_pos rfl]
      simp only [nlook]
      by_cases hs : k = s
      · subst hs; simp
      · rw [if_neg hs, if_neg hs, if_neg (fun e => hs e.symm)]
    · rw [if_neg hk]
      simp only [nlook]
      by_cases hs : k = s
      · subst hs; rw [if_pos rfl, if_pos rfl, if_neg hk]
      · rw [if_neg hs, if_neg hs, nlook_nset (e := r)]
/-- A slice that is nil is taken for a row of one's own. -/
theorem NWp.own (t w : Nat) (ty : Option Nat) {c : C} {e : NEnv} {h : NHeap} {Q : Out → NEnv → NHeap → Prop} (ht : nlook e t = some .nils) (k : NWp F c (nset e t (.sl h.nx 0 0 0)) (h.push ⟨[], w, w, true, ty⟩) Q) : NWp F c e h Q := fun φ V K H em sim he => by
  have hle := sim.bind_le .nil
  have s2 : SimH (bindN φ h.nx .nil) V K (h.push ⟨[], w, w, true, ty⟩) H := by
    refine ⟨sim.ok, sim.vk, sim.kh, fun r row e => ?_, fun r r' b w w' e1 e2 e3 e4 => ?_, fun r hr => ?_⟩
    · rw [NHeap.get_push] at e
      by_cases hr : r = h.nx
      · rw [if_pos hr] at e; cases e
        exact .inl ⟨by rw [hr]; exact bind_at _ _ _, rfl, rfl⟩
      · rw [if_neg hr] at e
        rcases sim.rows r row e with ⟨p, q⟩ | ⟨b, p, q, q2⟩
        · exact .inl ⟨hle _ _ p, q⟩
        · exact .inr ⟨b, hle _ _ p, q.mono hle (View.le_refl _) rfl, q2⟩
    · have key : ∀ r b w, bindN φ h.nx .nil r = some (.at b w) → (h.push ⟨[], w, w, true, ty⟩).get r ≠ none → φ r = some (.at b w) ∧ h.get r ≠ none := fun r b w e1 e2 => by
        unfold bindN at e1
        by_cases hr : r = h.nx
        · rw [if_pos hr] at e1; cases e1
        · rw [if_neg hr] at e1
          rw [NHeap.get_push, if_neg hr] at e2
          exact ⟨e1, e2⟩
      have e3' : (h.push ⟨[], w, w, true, ty⟩).get r ≠ none := by
        rw [NHeap.get_push] at e3 ⊢
        split at e3
        · rename_i hh; rw [if_pos hh]; simp
        · rename_i hh; rw [if_neg hh]; exact e3
      have e4' : (h.push ⟨[], w', w', true, ty⟩).get r' ≠ none := by
        rw [NHeap.get_push] at e4 ⊢
        split at e4
        · rename_i hh; rw [if_pos hh]; simp
        · rename_i hh; rw [if_neg hh]; exact e4
      exact sim.inj r r' b w w' (key r b w e1 e3').1 (key r' b w' e2 e4').1 (key r b w e1 e3').2 (key r' b w' e2 e4').2
    · simp only [NHeap.push] at hr
      unfold bindN
      rw [if_neg (by omega)]
      exact sim.fresh r (by omega)
  refine (k _ V K H em s2 fun s x hs => ?_).mono fun o em' H' ⟨φ', V', K', e', h', c1, c2, c3, c4⟩ => ⟨φ', V', K', e', h', ⟨hle.trans c1.phi, c1.v, c1.k, c1.size, c1.new⟩, c2, c3, c4⟩
  rw [nlook_nset] at hs
  by_cases h1 : s = t
  · rw [if_pos h1, h1, ht] at hs
    cases hs
    obtain ⟨u, e1, e2⟩ := he t _ ht
    rw [h1]
    exact ⟨u, e1, .inl ⟨bind_at _ _ _, rfl, rfl, rfl, e2⟩⟩
  · rw [if_neg h1] at hs
    obtain ⟨u, e1, e2⟩ := he s x hs
    exact ⟨u, e1, e2.mono hle (View.le_refl _)⟩
open Classical in
/-- Rows R are frozen. -/
theorem NWp.frz (R : List Nat) {c : C} {e e2 : NEnv} {h h2 : NHeap} {Q : Out → NEnv → NHeap → Prop} (he : ∀ t x, nlook e2 t = some x → ∃ y, nlook e t = some y ∧ Frz3 (h.only R) y x) (hn : h2.nx = h.nx)
    (hr : ∀ r row2, h2.get r = some row2 → r ∉ R ∧ ∃ row, h.get r = some row ∧ row2.w = row.w ∧ row2.es = row.es ∧ row2.own = row.own ∧ row2.ty = row.ty ∧ L2 (L2 (FrzC (h.only R))) row.els row2.els) (k : NWp F c e2 h2 Q) : NWp F c e h Q := fun φ V K H em sim hv => by
  have so := sim.sub (h.only_sub R)
  have hVW := withR_le sim R
  have hWH := withR_H sim R
  have hHo := withR_holds sim R
  let K' : View := fun b => match withR φ V h H R b with
    | some row => some row
    | none => K b
  have hKK : K.le K' := fun b row e => by
    simp only [K']
    cases hv2 : withR φ V h H R b with
    | none => exact e
    | some r2 =>
      have a1 := hWH _ _ hv2
      have a2 := sim.kh _ _ e
      rw [a1] at a2
      exact a2
  have hflat : ∀ {els els2 : List (List NV)} {us : List Value}, L2 (L2 (FrzC (h.only R))) els els2 → L2 (N0 φ V) els.flatten us → L2 (N0 φ (withR φ V h H R)) els2.flatten us := by
    intro els
    induction els with
    | nil => intro els2 us a b; cases els2 with
      | nil => rw [b.nil_left]; exact trivial
      | cons => exact a.elim
    | cons el els ih => intro els2 us a b; cases els2 with
      | nil => exact a.elim
      | cons el2 els2 =>
        rw [List.flatten_cons] at b ⊢
        obtain ⟨y1, y2, rfl, b1, b2⟩ := L2.split b
        exact L2.append (L2.frzC so hVW hHo a.1 b1) (ih a.2 b2)
  have hlen : ∀ {els els2 : List (List NV)} {w : Nat}, L2 (L2 (FrzC (h.only R))) els els2 → (∀ el ∈ els, el.length = w) → ∀ el ∈ els2, el.length = w := by
    intro els
    induction els with
    | nil => intro els2 w a _; cases els2 with
      | nil => intro el h; cases h
      | cons => exact a.elim
    | cons el els ih => intro els2 w a b; cases els2 with
      | nil => exact a.elim
      | cons el2 els2 =>
        intro x hx
        rcases List.mem_cons.1 hx with rfl | hx
        · rw [← a.1.length]; exact b el (List.mem_cons_self ..)
        · exact ih a.2 (fun y hy => b y (List.mem_cons_of_mem _ hy)) x hx
  have s2 : SimH φ (withR φ V h H R) K' h2 H := by
    refine ⟨sim.ok, fun b row e => by simp only [K', e], fun b row e => ?_, fun r row2 e => ?_, fun r r' b w w' e1 e2 e3 e4 => ?_, fun r hr' => sim.fresh r (by rw [← hn]; exact hr')⟩
    · simp only [K'] at e
      split at e
      · cases e; rename_i h1; exact hWH _ _ h1
      · exact sim.kh _ _ e
    · obtain ⟨g1, row, g2, g3, g4, g5, g6, g7⟩ := hr r row2 e
      rcases sim.rows r row g2 with ⟨p, q1, q2⟩ | ⟨b, p, ⟨cells, ty, q1, q2, q3, q4⟩, q5⟩
      · refine .inl ⟨p, ?_, by rw [g5]; exact q2⟩
        rw [q1] at g7
        exact g7.nil_left
      · refine .inr ⟨b, by rw [g3]; exact p, ⟨cells, ty, by rw [g4, g5]; exact q1, hflat g7 q2, by rw [g3]; exact hlen g7 q3, by rw [g6]; exact q4⟩, ?_⟩
        simp only [K']
        cases hv2 : withR φ V h H R b with
        | none => exact q5
        | some x =>
          exfalso
          rcases withR_new sim hv2 with g | ⟨r', hr', ⟨w', g8⟩, g9⟩
          · have := sim.vk _ _ g; rw [q5] at this; cases this
          · have := sim.inj r r' b _ w' p g8 (by rw [g2]; simp) g9
            rw [this] at g1
            exact g1 hr'
    · have nn : ∀ r, h2.get r ≠ none → h.get r ≠ none := fun r e => by
        cases g : h2.get r with
        | none => exact absurd g e
        | some row => obtain ⟨_, row', g2, _⟩ := hr r row g; rw [g2]; simp
      exact sim.inj r r' b w w' e1 e2 (nn _ e3) (nn _ e4)
  refine (k φ _ K' H em s2 fun t x ht => ?_).mono fun o em' H' ⟨φ', V', K2, e', h', c1, c2, c3, c4⟩ => ⟨φ', V', K2, e', h', ⟨c1.phi, hVW.trans c1.v, hKK.trans c1.k, c1.size, fun b row e => ?_⟩, c2, c3, c4⟩
  · obtain ⟨y, e1, e2⟩ := he t x ht
    obtain ⟨u, e3, e4⟩ := hv t y e1
    exact ⟨u, e3, Frz3.sound so hVW hHo e2 e4⟩
  · rcases c1.new b row e with g | g
    · left
      cases e2 : K b with
      | none => rfl
      | some x => have := hKK _ _ e2; rw [g] at this; cases this
    · rcases withR_new sim g with g | ⟨r', hr', ⟨w', g8⟩, g9⟩
      · exact .inr g
      · left
        cases hg : h.get r' with
        | none => exact absurd hg g9
        | some row' => exact (sim.row_at hg g8).2.2
end
end Go.Proofs.Ytnjmdkecpadehaa.M
