/- The framework N, tenth text: what is frozen; functions of data to data; calls with rows of one's own. Conditions: as the laws say. -/
import Derived.Test.YtnjmdkecpadehaaN9
set_option linter.all false
set_option linter.unusedSimpArgs false
namespace Go.Proofs.Ytnjmdkecpadehaa.M

/-! ### Freezing -/
/-- Cells that come to data, if the heap's rows are frozen. -/
def FrzD (h : NHeap) : (s : Sh) → Dat s → List NV → Prop
  | .int k, n, cs => cs = [.v (.int k n)]
  | .bool, b, cs => cs = [.v (.bool b)]
  | .str, t, cs => cs = [.v (.string t)]
  | .sl s, l, cs => cs = [.fsl s l] ∨ (l = [] ∧ (cs = [.nils] ∨ ∃ w, cs = [.emp w])) ∨ ∃ r i n c row, cs = [.sl r i n c] ∧ h.get r = some row ∧ row.w = s.width ∧ row.es = s.width ∧ n = List.length l ∧ n ≤ c ∧ i + n ≤ row.els.length ∧ L2 (FrzD h s) l ((row.els.drop i).take n)
  | .unit, _, cs => cs = []
  | .pair a b, (x, y), cs => ∃ c1 c2, cs = c1 ++ c2 ∧ FrzD h a x c1 ∧ FrzD h b y c2
def FrzC (h : NHeap) (a b : NV) : Prop := a = b ∨ ∃ s l, b = .fsl s l ∧ FrzD h (.sl s) l [a]
def Frz1 (h : NHeap) (a : NV) : NV → Prop
  | .agg ds => ∃ cs, a = .agg cs ∧ L2 (FrzC h) cs ds
  | b => FrzC h a b
def Frz3 (h : NHeap) (a : NV) : NV → Prop
  | .tup ds => ∃ cs, a = .tup cs ∧ L2 (Frz1 h) cs ds
  | .fn f ds => ∃ cs, a = .fn f cs ∧ L2 (Frz1 h) cs ds
  | b => Frz1 h a b
/-- No number of a row in it. -/
def idfree0 : NV → Bool
  | .sl _ _ _ _ => false
  | .ptr _ _ _ => false
  | _ => true
def idfree1 : NV → Bool
  | .agg cs => cs.all idfree0
  | x => idfree0 x
def idfree : NV → Bool
  | .tup cs => cs.all idfree1
  | .fn _ cs => cs.all idfree1
  | x => idfree1 x
def noPhi : NPhi := fun _ => none
theorem noPhi_le (φ : NPhi) : noPhi.le φ := fun r l e => by cases e
section
variable {φ : NPhi} {V : View}
theorem N0.idfree {x : NV} {u : Value} (hf : idfree0 x = true) (h : N0 φ V x u) : N0 noPhi V x u := by
  cases x <;> first
    | exact h
    | (simp [idfree0] at hf; done)
theorem L2.idfree0 : ∀ {l : List NV} {us : List Value}, l.all M.idfree0 = true → L2 (N0 φ V) l us → L2 (N0 noPhi V) l us
  | [], us, _, h => by rw [h.nil_left]; exact trivial
  | a :: l, us, h1, h2 => by
    obtain ⟨b, y', rfl, g1, g2⟩ := h2.cons_left
    simp only [List.all_cons, Bool.and_eq_true] at h1
    exact ⟨N0.idfree h1.1 g1, L2.idfree0 h1.2 g2⟩
theorem N1.idfree {x : NV} {u : Value} (hf : idfree1 x = true) (h : N1 φ V x u) : N1 noPhi V x u := by
  cases x with
  | agg cs => obtain ⟨a, h1, h2⟩ := h; exact ⟨a, h1, L2.idfree0 hf h2⟩
  | _ => (simp only [N1] at h ⊢; simp only [idfree1] at hf; exact N0.idfree hf h)
theorem L2.idfree1 : ∀ {l : List NV} {us : List Value}, l.all M.idfree1 = true → L2 (N1 φ V) l us → L2 (N1 noPhi V) l us
  | [], us, _, h => by rw [h.nil_left]; exact trivial
  | a :: l, us, h1, h2 => by
    obtain ⟨b, y', rfl, g1, g2⟩ := h2.cons_left
    simp only [List.all_cons, Bool.and_eq_true] at h1
    exact ⟨N1.idfree h1.1 g1, L2.idfree1 h1.2 g2⟩
theorem N3.idfree {x : NV} {u : Value} (hf : M.idfree x = true) (h : N3 φ V x u) : N3 noPhi V x u := by
  cases x with
  | tup cs => obtain ⟨a, h1, h2⟩ := h; exact ⟨a, h1, L2.idfree1 hf h2⟩
  | fn f cs => obtain ⟨a, h1, h2⟩ := h; exact ⟨a, h1, L2.idfree1 hf h2⟩
  | _ => (simp only [N3, N2] at h ⊢; simp only [M.idfree] at hf; exact N1.idfree hf h)
theorem L2.idfree : ∀ {l : List NV} {us : List Value}, l.all M.idfree = true → L2 (N3 φ V) l us → L2 (N3 noPhi V) l us
  | [], us, _, h => by rw [h.nil_left]; exact trivial
  | a :: l, us, h1, h2 => by
    obtain ⟨b, y', rfl, g1, g2⟩ := h2.cons_left
    simp only [List.all_cons, Bool.and_eq_true] at h1
    exact ⟨N3.idfree h1.1 g1, L2.idfree h1.2 g2⟩
/-- A view that holds the rows of a heap. -/
def Holds (φ : NPhi) (h : NHeap) (H : Heap) (W : View) : Prop := ∀ r b w, φ r = some (.at b w) → h.get r ≠ none → W b = H.get b
theorem FrzD.sound {K : View} {h : NHeap} {H : Heap} (sim : SimH φ V K h H) {W : View} (hV : V.le W) (hW : Holds φ h H W) : ∀ {s : Sh} {x : Dat s} {cs : List NV} {us : List Value}, FrzD h s x cs → L2 (N0 φ V) cs us → RdF W s x us
  | .int _, _, _, us, k, l => by
    rw [show _ = _ from k] at l
    obtain ⟨b, y, rfl, ⟨rfl, _⟩, k2⟩ := l.cons_left
    rw [k2.nil_left]; rfl
  | .bool, _, _, us, k, l => by
    rw [show _ = _ from k] at l
    obtain ⟨b, y, rfl, ⟨rfl, _⟩, k2⟩ := l.cons_left
    rw [k2.nil_left]; rfl
  | .str, _, _, us, k, l => by
    rw [show _ = _ from k] at l
    obtain ⟨b, y, rfl, ⟨rfl, _⟩, k2⟩ := l.cons_left
    rw [k2.nil_left]; rfl
  | .unit, _, _, us, k, l => by
    rw [show _ = _ from k] at l
    rw [l.nil_left]; rfl
  | .pair a b, (x, y), cs, us, ⟨c1, c2, e, k1, k2⟩, l => by
    subst e
    obtain ⟨y1, y2, rfl, l1, l2⟩ := L2.split l
    exact ⟨y1, y2, rfl, FrzD.sound sim hV hW k1 l1, FrzD.sound sim hV hW k2 l2⟩
  | .sl s, l, cs, us, k, lu => by
    rcases k with rfl | ⟨rfl, rfl | ⟨w, rfl⟩⟩ | ⟨r, i, n, c, row, rfl, hg, hw, hes, rfl, hnc, hin, hl⟩
    · obtain ⟨b, y, rfl, k1, k2⟩ := lu.cons_left
      rw [k2.nil_left]
      exact RdF.mono hV (s := .sl s) k1
    · obtain ⟨b, y, rfl, k1, k2⟩ := lu.cons_left
      rw [k2.nil_left, show b = _ from k1]
      exact ⟨_, [], rfl, .inl ⟨rfl, rfl, none, rfl, fun _ e => (by cases e)⟩, rfl⟩
    · obtain ⟨b, y, rfl, k1, k2⟩ := lu.cons_left
      rw [k2.nil_left]
      obtain ⟨b, off, row, rfl, _⟩ := N3.emp (φ := φ) (.of0 k1)
      exact ⟨_, [], rfl, .inl ⟨rfl, rfl, _, rfl, fun _ e => by cases e; rfl⟩, rfl⟩
    · obtain ⟨u, y, rfl, k1, k2⟩ := lu.cons_left
      rw [k2.nil_left]
      rcases N3.sl (φ := φ) (.of0 k1) with ⟨p, rfl, h0, _, rfl⟩ | ⟨b, w, p, rfl⟩
      · have hl0 : l = [] := List.eq_nil_of_length_eq_zero h0
        subst hl0
        exact ⟨_, [], rfl, .inl ⟨rfl, rfl, none, rfl, fun _ e => (by cases e)⟩, rfl⟩
      · obtain ⟨rfl, ⟨cells, ty, g1, g2, g3, g4⟩, hk⟩ := sim.row_at hg p
        have hWb : W b = some ⟨cells, row.es, row.own, ty⟩ := by rw [hW r b _ p (by rw [hg]; simp), g1]
        have hcl : cells.length = row.els.length * row.w := by rw [← g2.length, flatten_len g3]
        have hb : (i + List.length l) * row.w ≤ row.els.length * row.w := Nat.mul_le_mul_right _ hin
        rw [Nat.add_mul] at hb
        have key : ∀ {l : List (Dat s)} {els : List (List NV)} {cs : List Value}, L2 (FrzD h s) l els → L2 (N0 φ V) els.flatten cs → DenL (RdF W s) l cs := by
          intro l
          induction l with
          | nil => intro els cs a b; rw [a.nil_left] at b; exact b.nil_left
          | cons x l ih =>
            intro els cs a b
            obtain ⟨el, els', rfl, a1, a2⟩ := a.cons_left
            rw [List.flatten_cons] at b
            obtain ⟨y1, y2, rfl, b1, b2⟩ := L2.split b
            exact ⟨y1, y2, rfl, FrzD.sound sim hV hW a1 b1, ih a2 b2⟩
        have hfl : ((row.els.drop i).take (List.length l)).flatten = (row.els.flatten.drop (i * row.w)).take (List.length l * row.w) := by
          rw [flatten_drop i g3, flatten_take _ (fun el he => g3 el (List.mem_of_mem_drop he))]
        have hd := key hl (by rw [hfl]; exact (g2.drop _).take _)
        rw [hw] at hd hcl hb ⊢
        exact ⟨_, _, rfl, .inr ⟨b, i * s.width, c, _, rfl, hWb, hes, hnc, by simp only; omega, rfl⟩, hd⟩
section
variable {K : View} {h : NHeap} {H : Heap} (sim : SimH φ V K h H) {W : View} (hV : V.le W) (hW : Holds φ h H W)
include sim hV hW
theorem FrzC.sound {a b : NV} {u : Value} (k : FrzC h a b) (n : N0 φ V a u) : N0 φ W b u := by
  rcases k with rfl | ⟨s, l, rfl, k⟩
  · exact n.mono (NPhi.le_refl _) hV
  · exact FrzD.sound sim hV hW k (us := [u]) ⟨n, trivial⟩
theorem L2.frzC : ∀ {cs ds : List NV} {us : List Value}, L2 (FrzC h) cs ds → L2 (N0 φ V) cs us → L2 (N0 φ W) ds us
  | [], [], us, _, n => by rw [n.nil_left]; exact trivial
  | a :: cs, b :: ds, us, k, n => by
    obtain ⟨x, y, rfl, n1, n2⟩ := n.cons_left
    exact ⟨FrzC.sound sim hV hW k.1 n1, L2.frzC k.2 n2⟩
  | [], _ :: _, _, k, _ => k.elim
  | _ :: _, [], _, k, _ => k.elim
theorem Frz1.sound {a b : NV} {u : Value} (k : Frz1 h a b) (n : N1 φ V a u) : N1 φ W b u := by
  cases b with
  | agg ds =>
    obtain ⟨cs, rfl, k⟩ := k
    obtain ⟨arr, h1, h2⟩ := n
    exact ⟨arr, h1, L2.frzC sim hV hW k h2⟩
  | _ =>
    simp only [Frz1] at k
    rcases k with rfl | ⟨s, l, e, k⟩
    · exact n.mono (NPhi.le_refl _) hV
    · refine N1.of0 (FrzC.sound sim hV hW (.inr ⟨s, l, e, k⟩) ?_)
      cases a with
      | agg ds =>
        exfalso
        rcases k with k | ⟨_, k | ⟨w, k⟩⟩ | ⟨r, i, n, c, row, k, _⟩ <;> simp at k
      | _ => exact (by simp only [N1] at n; exact n)
theorem L2.frz1 : ∀ {cs ds : List NV} {us : List Value}, L2 (Frz1 h) cs ds → L2 (N1 φ V) cs us → L2 (N1 φ W) ds us
  | [], [], us, _, n => by rw [n.nil_left]; exact trivial
  | a :: cs, b :: ds, us, k, n => by
    obtain ⟨x, y, rfl, n1, n2⟩ := n.cons_left
    exact ⟨Frz1.sound sim hV hW k.1 n1, L2.frz1 k.2 n2⟩
  | [], _ :: _, _, k, _ => k.elim
  | _ :: _, [], _, k, _ => k.elim
theorem Frz3.sound {a b : NV} {u : Value} (k : Frz3 h a b) (n : N3 φ V a u) : N3 φ W b u := by
  cases b with
  | tup ds =>
    obtain ⟨cs, rfl, k⟩ := k
    obtain ⟨arr, h1, h2⟩ := n
    exact ⟨arr, h1, L2.frz1 sim hV hW k h2⟩
  | fn f ds =>
    obtain ⟨cs, rfl, k⟩ := k
    obtain ⟨arr, h1, h2⟩ := n
    exact ⟨arr, h1, L2.frz1 sim hV hW k h2⟩
  | agg ds =>
    have k0 := k
    obtain ⟨cs, rfl, k⟩ := k
    exact .of1 (Frz1.sound sim hV hW k0 n)
  | _ =>
    simp only [Frz3, Frz1] at k
    rcases k with rfl | ⟨s, l, e, k⟩
    · exact n.mono (NPhi.le_refl _) hV
    · refine N3.of0 (FrzC.sound sim hV hW (.inr ⟨s, l, e, k⟩) ?_)
      cases a with
      | agg ds => exfalso; rcases k with k | ⟨_, k | ⟨w, k⟩⟩ | ⟨r, i, n, c, row, k, _⟩ <;> simp at k
      | tup ds => exfalso; rcases k with k | ⟨_, k | ⟨w, k⟩⟩ | ⟨r, i, n, c, row, k, _⟩ <;> simp at k
      | fn f ds => exfalso; rcases k with k | ⟨_, k | ⟨w, k⟩⟩ | ⟨r, i, n, c, row, k, _⟩ <;> simp at k
      | _ => exact (by simp only [N3, N2, N1] at n; exact n)
theorem L2.frz3 : ∀ {cs ds : List NV} {us : List Value}, L2 (Frz3 h) cs ds → L2 (N3 φ V) cs us → L2 (N3 φ W) ds us
  | [], [], us, _, n => by rw [n.nil_left]; exact trivial
  | a :: cs, b :: ds, us, k, n => by
    obtain ⟨x, y, rfl, n1, n2⟩ := n.cons_left
    exact ⟨Frz3.sound sim hV hW k.1 n1, L2.frz3 k.2 n2⟩
  | [], _ :: _, _, k, _ => k.elim
  | _ :: _, [], _, k, _ => k.elim
end
end

/-! ### Functions of data to data -/
section
variable {F : Nat → Option Fun}
/-- A function that answers data, of data, and turns nothing. -/
def PureP (F : Nat → Option Fun) (f : Nat) (vs : List NV) (P : NV → Prop) : Prop := ∀ (V : View) (H : Heap) (us : List Value), H.ok → V.le H.get → L2 (N3 noPhi V) vs us →
  Cw F f us H fun u H' => H'.ok ∧ H.size ≤ H'.size ∧ View.le H.get H'.get ∧ ∃ (V' : View) (w : NV), V.le V' ∧ V'.le H'.get ∧ (∀ b row, V' b = some row → H.get b = none ∨ V b = some row) ∧ N3 noPhi V' w u ∧ P w
abbrev Pure (F : Nat → Option Fun) (f : Nat) (vs : List NV) (w : NV) : Prop := PureP F f vs fun x => x = w
def NHeap.nothing : NHeap := ⟨0, []⟩
theorem SimH.nothing {V : View} {H : Heap} (ho : H.ok) (hV : V.le H.get) : SimH noPhi V H.get NHeap.nothing H :=
  ⟨ho, hV, View.le_refl _, fun r row e => (by cases e), fun r r' b w w' e => (by cases e), fun r _ => rfl⟩
open Classical in
theorem PureP.body {f : Nat} {m : MF} (hf : F f = some (.code m)) {vs : List NV} {P : NV → Prop} (hn : vs.length = m.na) (hk : NWp F m.body (nenum 0 vs) NHeap.nothing (nbody m.res fun w h => ∃ w', Frz3 h w w' ∧ idfree w' = true ∧ P w')) : PureP F f vs P := by
  intro V H us ho hV hv
  refine (NCall.body hf hn hk noPhi V H.get H us (SimH.nothing ho hV) hv).mono fun u H' ⟨φ', V', K', h', w, c1, c2, c3, w', c4, c5, c6⟩ => ?_
  let W : View := fun b => if H.get b = none ∨ (V b ≠ none) then H'.get b else none
  have hVW : V'.le W := fun b row e => by
    have h1 : H'.get b = some row := c2.kh _ _ (c2.vk _ _ e)
    simp only [W]
    rw [if_pos]
    · exact h1
    · rcases c1.new b row e with g | g
      · exact .inl g
      · right; rw [g]; simp
  have hW : Holds φ' h' H' W := fun r b w e1 e2 => by
    cases hg : h'.get r with
    | none => exact absurd hg e2
    | some row =>
      obtain ⟨_, _, hk⟩ := c2.row_at hg e1
      simp only [W]
      rw [if_pos]
      left
      cases e : H.get b with
      | none => rfl
      | some x => have := c1.k b x e; rw [hk] at this; cases this
  refine ⟨c2.ok, c1.size, c1.k.trans c2.kh, W, w', ?_, ?_, ?_, N3.idfree c5 (Frz3.sound c2 hVW hW c4 c3), c6⟩
  · exact c1.v.trans hVW
  · intro b row e
    simp only [W] at e
    split at e
    · exact e
    · cases e
  · intro b row e
    simp only [W] at e
    split at e
    · rename_i hh
      rcases hh with g | g
      · exact .inl g
      · right
        cases hv2 : V b with
        | none => exact absurd hv2 g
        | some r2 =>
          have := c2.kh _ _ (c2.vk _ _ (c1.v _ _ hv2))
          rw [this] at e
          exact e
    · cases e
theorem PureP.code {f : Nat} {m : MF} (hf : F f = some (.code m)) {vs : List NV} {P : NV → Prop} (hn : vs.length = m.na) (hk : nwp F m.body (nenum 0 vs) NHeap.nothing (nbody m.res fun w h => ∃ w', Frz3 h w w' ∧ idfree w' = true ∧ P w')) : PureP F f vs P := PureP.body hf hn (nwp_sound hk)
theorem PureP.mono {f : Nat} {vs : List NV} {P P' : NV → Prop} (k : PureP F f vs P) (h : ∀ w, P w → P' w) : PureP F f vs P' := fun V H us a b c =>
  (k V H us a b c).mono fun u H' ⟨c1, c2, c3, V', w, c4, c5, c6, c7, c8⟩ => ⟨c1, c2, c3, V', w, c4, c5, c6, c7, h _ c8⟩
/-- Some rows of a heap. -/
def onlyR (R : List Nat) : List (Nat × NRow) → List (Nat × NRow)
  | [] => []
  | (k, row) :: l => if k ∈ R then (k, row) :: onlyR R l else onlyR R l
def NHeap.only (h : NHeap) (R : List Nat) : NHeap := ⟨h.nx, onlyR R h.rows⟩
def NHeap.dels (h : NHeap) : List Nat → NHeap
  | [] => h
  | r :: R => (h.dels R).del r
theorem getR_only (R : List Nat) (r : Nat) : ∀ l, getR (onlyR R l) r = if r ∈ R then getR l r else none
  | [] => by simp [onlyR, getR]
  | (k, row) :: l => by
    simp only [onlyR]
    by_cases hk : k ∈ R
    · rw [if_pos hk]
      simp only [getR, getR_only R r l]
      by_cases e : k = r
      · subst e; simp [hk]
      · simp only [if_neg e]
    · rw [if_neg hk, getR_only R r l]
      simp only [getR]
      by_cases e : k = r
      · subst e; simp [hk]
      · simp only [if_neg e]
theorem NHeap.get_only (h : NHeap) (R : List Nat) (r : Nat) : (h.only R).get r = if r ∈ R then h.get r else none := getR_only R r h.rows
theorem NHeap.only_sub (h : NHeap) (R : List Nat) : (h.only R).sub h := ⟨rfl, fun r row e => by
  rw [NHeap.get_only] at e
  split at e
  · exact e
  · cases e⟩
theorem NHeap.get_dels (h : NHeap) (r : Nat) : ∀ R, (h.dels R).get r = if r ∈ R then none else h.get r
  | [] => by simp [NHeap.dels]
  | a :: R => by
    simp only [NHeap.dels, NHeap.get_del, NHeap.get_dels h r R, List.mem_cons]
    by_cases e : r = a
    · simp [e]
    · simp [e]
theorem NHeap.dels_nx (h : NHeap) : ∀ R, (h.dels R).nx = h.nx
  | [] => rfl
  | a :: R => NHeap.dels_nx h R
theorem NHeap.dels_sub (h : NHeap) (R : List Nat) : (h.dels R).sub h := ⟨h.dels_nx R, fun r row e => by
  rw [NHeap.get_dels] at e
  split at e
  · cases e
  · exact e⟩
section
variable {φ : NPhi} {V K : View} {h : NHeap} {H : Heap}
open Classical in
/-- The view that holds some rows, too. -/
noncomputable def withR (φ : NPhi) (V : View) (h : NHeap) (H : Heap) (R : List Nat) : View := fun b => match V b with
  | some row => some row
  | none => if ∃ r ∈ R, (∃ w, φ r = some (.at b w)) ∧ h.get r ≠ none then H.get b else none
theorem withR_le (sim : SimH φ V K h H) (R : List Nat) : V.le (withR φ V h H R) := fun b row e => by simp only [withR, e]
theorem withR_H (sim : SimH φ V K h H) (R : List Nat) : (withR φ V h H R).le H.get := fun b row e => by
  unfold withR at e
  split at e
  · cases e
    rename_i h1
    exact sim.kh _ _ (sim.vk _ _ h1)
  · split at e
    · exact e
    · cases e
theorem withR_holds (sim : SimH φ V K h H) (R : List Nat) : Holds φ (h.only R) H (withR φ V h H R) := fun r b w e1 e2 => by
  rw [NHeap.get_only] at e2
  split at e2
  · rename_i hr
    unfold withR
    split
    · rename_i h1
      rw [sim.kh _ _ (sim.vk _ _ h1)]
    · rw [if_pos ⟨r, hr, ⟨w, e1⟩, e2⟩]
  · exact absurd rfl e2
theorem withR_new (sim : SimH φ V K h H) {R : List Nat} {b : Nat} {row : Row} (e : withR φ V h H R b = some row) : V b = some row ∨ ∃ r ∈ R, (∃ w, φ r = some (.at b w)) ∧ h.get r ≠ none := by
  unfold withR at e
  split at e
  · cases e; rename_i h1; exact .inl h1
  · split at e
    · rename_i h2; exact .inr h2
    · cases e
end
/-- A call of a function of data; the rows R are frozen for it. -/
theorem PureP.callT {f : Nat} {vs ws : List NV} {P : NV → Prop} (k : PureP F f ws P) {h : NHeap} (R : List Nat) (hz : L2 (Frz3 (h.only R)) vs ws) (hi : ws.all idfree = true) {Q : NV → NHeap → Prop} (hq : ∀ w, P w → Q w (h.dels R)) : NCallT F f vs h R true Q := by
  intro φ V K H us sim hv
  have hn := L2.idfree hi (L2.frz3 (sim.sub (h.only_sub R)) (withR_le sim R) (withR_holds sim R) hz hv)
  refine (k (withR φ V h H R) H us sim.ok (withR_H sim R) hn).mono fun u H' ⟨c1, c2, c3, V', w, c4, c5, c6, c7, c8⟩ => ?_
  let K' : View := fun b => match V' b with
    | some row => some row
    | none => K b
  have hVV : V.le V' := (withR_le sim R).trans c4
  have hKK : K.le K' := fun b row e => by
    simp only [K']
    cases hv2 : V' b with
    | none => exact e
    | some r2 =>
      have a1 := c5 _ _ hv2
      have a2 := c3 _ _ (sim.kh _ _ e)
      rw [a1] at a2
      exact a2
  have hnot : ∀ r row b w, r ∉ R → h.get r = some row → φ r = some (.at b w) → V' b = none := fun r row b w hr hg hp => by
    cases hv2 : V' b with
    | none => rfl
    | some r2 =>
      exfalso
      obtain ⟨_, ⟨c, t, q, _⟩, hkn⟩ := sim.row_at hg hp
      rcases c6 _ _ hv2 with g | g
      · rw [q] at g; cases g
      · rcases withR_new sim g with g | ⟨r', hr', ⟨w', g1⟩, g2⟩
        · have := sim.vk _ _ g; rw [hkn] at this; cases this
        · have := sim.inj r r' b w w' hp g1 (by rw [hg]; simp) g2
          rw [this] at hr
          exact hr hr'
  refine ⟨φ, V', K', h.dels R, w, ⟨NPhi.le_refl _, hVV, hKK, c2, fun b row e => ?_⟩, ⟨c1, fun b row e => by simp only [K', e], fun b row e => ?_, fun r row e => ?_, (sim.sub (h.dels_sub R)).inj, (sim.sub (h.dels_sub R)).fresh⟩, c7.mono (noPhi_le φ) (View.le_refl _), ⟨fun r row b w hg hp hr => ?_, fun r hr _ => by rw [NHeap.get_dels, if_neg hr], by rw [NHeap.dels_nx]; exact Nat.le_refl _⟩, fun e => (by cases e), hq w c8⟩
  · rcases c6 _ _ e with g | g
    · exact .inl (sim.k_none g)
    · rcases withR_new sim g with g | ⟨r', hr', ⟨w', g1⟩, g2⟩
      · exact .inr g
      · left
        cases hg : h.get r' with
        | none => exact absurd hg g2
        | some row' => exact (sim.row_at hg g1).2.2
  · simp only [K'] at e
    split at e
    · cases e; rename_i h1; exact c5 _ _ h1
    · exact c3 _ _ (sim.kh _ _ e)
  · rw [NHeap.get_dels] at e
    split at e
    · cases e
    · rename_i hr
      rcases sim.rows r row e with ⟨p, q⟩ | ⟨b, p, q, q2⟩
      · exact .inl ⟨p, q⟩
      · refine .inr ⟨b, p, q.mono (NPhi.le_refl _) hVV ?_, ?_⟩
        · obtain ⟨c, t, q, _⟩ := q
          rw [c3 _ _ q, q]
        · simp only [K', hnot r row b _ hr e p, q2]
  · obtain ⟨_, ⟨c, t, q, _⟩, _⟩ := sim.row_at hg hp
    rw [c3 _ _ q, q]
theorem PureP.callR {f : Nat} {vs ws : List NV} {P : NV → Prop} (k : PureP F f ws P) {h : NHeap} (R : List Nat) (hz : L2 (Frz3 (h.only R)) vs ws) (hi : ws.all idfree = true) {Q : NV → NHeap → Prop} (hq : ∀ w, P w → Q w (h.dels R)) : NCall F f vs h Q := (k.callT R hz hi hq).call
/-- No slice and no address in it. -/
def plainN0 : NV → Bool
  | .v _ => true
  | _ => false
def plainN1 : NV → Bool
  | .agg cs => cs.all plainN0
  | x => plainN0 x
def plainN : NV → Bool
  | .tup cs => cs.all plainN1
  | x => plainN1 x
section
variable {φ φ' : NPhi} {V V' : View}
theorem N0.plain {x : NV} {u : Value} (hf : plainN0 x = true) (h : N0 φ V x u) : N0 φ' V' x u := by
  cases x <;> first
    | exact h
    | (simp [plainN0] at hf; done)
theorem L2.plain0 : ∀ {l : List NV} {us : List Value}, l.all plainN0 = true → L2 (N0 φ V) l us → L2 (N0 φ' V') l us
  | [], us, _, h => by rw [h.nil_left]; exact trivial
  | a :: l, us, h1, h2 => by
    obtain ⟨b, y', rfl, g1, g2⟩ := h2.cons_left
    simp only [List.all_cons, Bool.and_eq_true] at h1
    exact ⟨N0.plain h1.1 g1, L2.plain0 h1.2 g2⟩
theorem N1.plain {x : NV} {u : Value} (hf : plainN1 x = true) (h : N1 φ V x u) : N1 φ' V' x u := by
  cases x with
  | agg cs => obtain ⟨a, h1, h2⟩ := h; exact ⟨a, h1, L2.plain0 hf h2⟩
  | _ => (simp only [N1] at h ⊢; simp only [plainN1] at hf; exact N0.plain hf h)
theorem L2.plain1 : ∀ {l : List NV} {us : List Value}, l.all plainN1 = true → L2 (N1 φ V) l us → L2 (N1 φ' V') l us
  | [], us, _, h => by rw [h.nil_left]; exact trivial
  | a :: l, us, h1, h2 => by
    obtain ⟨b, y', rfl, g1, g2⟩ := h2.cons_left
    simp only [List.all_cons, Bool.and_eq_true] at h1
    exact ⟨N1.plain h1.1 g1, L2.plain1 h1.2 g2⟩
theorem N3.plain {x : NV} {u : Value} (hf : plainN x = true) (h : N3 φ V x u) : N3 φ' V' x u := by
  cases x with
  | tup cs => obtain ⟨a, h1, h2⟩ := h; exact ⟨a, h1, L2.plain1 hf h2⟩
  | fn f cs => simp [plainN, plainN1, plainN0] at hf
  | _ => (simp only [N3, N2] at h ⊢; simp only [plainN] at hf; exact N1.plain hf h)
end
/-- A call of a function of data that answers nothing but numbers: it may look at all rows, and they stay one's own. -/
theorem PureP.callTB {f : Nat} {vs ws : List NV} {P : NV → Prop} (k : PureP F f ws P) {h : NHeap} (hz : L2 (Frz3 h) vs ws) (hi : ws.all idfree = true) {Q : NV → NHeap → Prop} (hq : ∀ w, P w → plainN w = true ∧ Q w h) : NCallT F f vs h [] false Q := by
  intro φ V K H us sim hv
  have hn := L2.idfree hi (L2.frz3 sim (sim.vk.trans sim.kh) (fun r b w _ _ => rfl) hz hv)
  refine (k H.get H us sim.ok (View.le_refl _) hn).mono fun u H' ⟨c1, c2, c3, V', w, c4, c5, c6, c7, c8⟩ => ?_
  obtain ⟨q1, q2⟩ := hq w c8
  have hrow : ∀ r row b w, h.get r = some row → φ r = some (.at b w) → H'.get b = H.get b := fun r row b w hg hp => by
    obtain ⟨_, ⟨c, t, q, _⟩, _⟩ := sim.row_at hg hp
    rw [c3 _ _ q, q]
  refine ⟨φ, V, K, h, w, ⟨NPhi.le_refl _, View.le_refl _, View.le_refl _, c2, fun _ _ e => .inr e⟩, ⟨c1, sim.vk, sim.kh.trans c3, fun r row e => ?_, sim.inj, sim.fresh⟩, c7.plain q1, ⟨fun r row b w hg hp _ => hrow r row b w hg hp, fun _ _ _ => rfl, Nat.le_refl _⟩, fun _ => rfl, q2⟩
  rcases sim.rows r row e with ⟨p, q⟩ | ⟨b, p, q, q2⟩
  · exact .inl ⟨p, q⟩
  · exact .inr ⟨b, p, q.mono (NPhi.le_refl _) (View.le_refl _) (hrow r row b _ e p), q2⟩
theorem PureP.callB {f : Nat} {vs ws : List NV} {P : NV → Prop} (k : PureP F f ws P) {h : NHeap} (hz : L2 (Frz3 h) vs ws) (hi : ws.all idfree = true) {Q : NV → NHeap → Prop} (hq : ∀ w, P w → plainN w = true ∧ Q w h) : NCall F f vs h Q := (k.callTB hz hi hq).call
end
end Go.Proofs.Ytnjmdkecpadehaa.M
