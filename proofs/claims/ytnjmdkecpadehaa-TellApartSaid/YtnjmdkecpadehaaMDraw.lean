/- The framework M, thirteenth text: a region that draws its order: the states of M's run, and what they keep. Conditions: the looks at the region. -/
import Derived.Test.YtnjmdkecpadehaaMNames
import Derived.Orders
set_option linter.all false
set_option linter.unusedSimpArgs false
namespace Go.Proofs.Ytnjmdkecpadehaa.M

theorem runDs_states {call : CallFn} : ∀ {ds : List D} {i0 : Nat} {s s' : DS}, runDs call i0 ds s = some s' →
    ∃ S : Nat → DS, S 0 = s ∧ S ds.length = s' ∧ ∀ (k : Nat) d, ds[k]? = some d → d.run call (i0 + k) (S k) = some (S (k + 1))
  | [], i0, s, s', h => by cases h; exact ⟨fun _ => s, rfl, rfl, fun k d hd => by simp at hd⟩
  | d :: r, i0, s, s', h => by
    unfold runDs at h
    split at h
    · rename_i s1 h1
      obtain ⟨S, e1, e2, e3⟩ := runDs_states h
      refine ⟨fun k => match k with | 0 => s | k + 1 => S k, rfl, by simpa using e2, fun k d' hd => ?_⟩
      cases k with
      | zero => simp at hd; subst hd; simpa [e1] using h1
      | succ k => have := e3 k d' (by simpa using hd); rwa [show i0 + 1 + k = i0 + (k + 1) by omega] at this
    · cases h

/-- The ways of one step. -/
inductive Way (call : CallFn) (k : Nat) (d : D) (s s' : DS) : Prop where
  | skip (hw : d.o.want s.e = some false) (hs : s' = { s with e := put s.e d.o.d unit })
  | calm (v : Value) (hw : d.o.want s.e = some true) (hc : d.o.i.cls = .calm) (H1 : Heap) (hr : d.o.i.run call s.e s.H = some (v, H1)) (hs : s' = { s with e := put s.e d.o.d v })
  | far (v : Value) (hw : d.o.want s.e = some true) (hc : d.o.i.cls = .load) (H1 : Heap) (hr : d.o.i.run call s.e s.H = some (v, H1)) (hp : d.o.i.peek s.e = none) (hs : s' = { s with e := put s.e d.o.d v })
  | load (v : Value) (hw : d.o.want s.e = some true) (hc : d.o.i.cls = .load) (H1 : Heap) (hr : d.o.i.run call s.e s.H = some (v, H1)) (p : Nat × Nat × Nat) (ce : List Value × Nat) (hp : d.o.i.peek s.e = some p)
      (he : peekAt s.H p = some ce) (hk : chkLd s.hbs p ce d.chk = true) (hs : s' = { s with e := put s.e d.o.d v, lds := (k, p, ce) :: s.lds })
  | alloc (es : Nat) (z : List Value) (hw : d.o.want s.e = some true) (hc : d.o.i = .alloc es z) (hs : s' = { s with e := put s.e d.o.d (.pointer (some ⟨s.H.size + s.pend.length, 0, none⟩)), pend := s.pend ++ [⟨z, es, true, some es⟩] })
  | act (v : Value) (hw : d.o.want s.e = some true) (hc : d.o.i.cls = .act) (H' : Heap) (hr : d.o.i.run call s.e (pushAll s.H s.pend) = some (v, H')) (hk : chkAct s.lds H' d.chk = true)
      (hs : s' = { s with e := put s.e d.o.d v, H := H', pend := [], hbs := (k, s.H) :: s.hbs })
theorem D.run_way {call : CallFn} {k : Nat} {d : D} {s s' : DS} (h : d.run call k s = some s') : Way call k d s s' := by
  unfold D.run at h
  split at h
  · cases h
  · rename_i hw; cases h; exact .skip hw rfl
  · rename_i hw
    split at h
    · rename_i hc
      split at h <;> cases h
      rename_i v H1 hr
      exact .calm v hw hc H1 hr rfl
    · rename_i hc
      split at h <;> try cases h
      rename_i v H1 hr
      split at h
      · rename_i hp; cases h; exact .far v hw hc H1 hr hp rfl
      · rename_i p hp
        split at h <;> try cases h
        rename_i ce he
        rw [cond_eq_ite] at h
        split at h <;> cases h
        rename_i hk
        exact .load v hw hc H1 hr p ce hp he hk rfl
    · rename_i hc
      split at h <;> cases h
      rename_i es z hi
      exact .alloc es z hw hi rfl
    · rename_i hc
      split at h <;> try cases h
      rename_i v H' hr
      rw [cond_eq_ite] at h
      split at h <;> cases h
      rename_i hk
      exact .act v hw hc H' hr hk rfl

theorem pushAll_snoc (H : Heap) : ∀ (l : List Row) (r : Row), pushAll H (l ++ [r]) = (pushAll H l).push r := by
  intro l
  induction l generalizing H with
  | nil => intro r; rfl
  | cons a l ih => intro r; exact ih (H.push a) r
theorem pushAll_size (H : Heap) : ∀ (l : List Row), (pushAll H l).size = H.size + l.length := by
  intro l
  induction l generalizing H with
  | nil => rfl
  | cons a l ih => simp only [pushAll, ih, Heap.size_push, List.length_cons]; omega

/-- A region: its operations, M's, the states, what stands ahead of what. -/
structure Reg (P : Program) (call : CallFn) (nt : Nat) (ops : Array Oper) (ds : List D) (S : Nat → DS) (B : Nat → Nat → Prop) : Prop where
  cs : CallS P call
  mono : CallMono call
  len : ds.length = ops.size
  op : ∀ (k : Nat) d o, ds[k]? = some d → ops[k]? = some o → okO1 P nt ops o d.o = true
  st : ∀ (k : Nat) d, ds[k]? = some d → d.run call k (S k) = some (S (k + 1))
  p0 : (S 0).pend = []
  low : ∀ (k : Nat) o, ops[k]? = some o → ∀ e ∈ o.after, Region.binds .any e = true → e.on < k
  cl : ∀ L : Nat → Prop, (∀ (k : Nat) o, ops[k]? = some o → L k → ∀ e ∈ o.after, Region.binds .any e = true → L e.on) → ∀ k i, k < ds.length → L k → B k i → L i
  s1 : ∀ (i j : Nat) di dj, ds[i]? = some di → ds[j]? = some dj → i < j → di.o.i.cls = .act → dj.o.i.cls = .act → B j i
  s2 : ∀ (i j : Nat) di dj, ds[i]? = some di → ds[j]? = some dj → i < j → di.o.i.cls = .alloc → dj.o.i.cls = .act → B j i
  s3 : ∀ (i j : Nat) di dj, ds[i]? = some di → ds[j]? = some dj → i < j → di.o.i.cls = .load → dj.o.i.cls = .act → B j i ∨ i ∈ dj.chk
  s3' : ∀ (i j : Nat) di dj, ds[i]? = some di → ds[j]? = some dj → i < j → di.o.i.cls = .act → dj.o.i.cls = .load → B j i ∨ i ∈ dj.chk
  s4 : ∀ (i j : Nat) di dj t, ds[i]? = some di → ds[j]? = some dj → i < j → (di.o.d = some t ∧ t ∈ dj.o.names ∨ dj.o.d = some t ∧ t ∈ di.o.names) → B j i

section
variable {P : Program} {call : CallFn} {nt : Nat} {ops : Array Oper} {ds : List D} {S : Nat → DS} {B : Nat → Nat → Prop}

def sz (S : Nat → DS) (k : Nat) : Nat := (S k).H.size + (S k).pend.length
theorem Reg.way (R : Reg P call nt ops ds S B) {k : Nat} {d : D} (h : ds[k]? = some d) : Way call k d (S k) (S (k + 1)) := D.run_way (R.st k d h)
/-- The heap, the rows since, the temps, behind one step. -/
theorem Reg.heap (R : Reg P call nt ops ds S B) {k : Nat} {d : D} (h : ds[k]? = some d) (hn : ¬ (d.o.i.cls = .act ∧ d.o.want (S k).e = some true)) : (S (k + 1)).H = (S k).H := by
  cases R.way h with
  | skip hw hs => rw [hs]
  | calm v hw hc H1 hr hs => rw [hs]
  | far v hw hc H1 hr hp hs => rw [hs]
  | load v hw hc H1 hr p ce hp he hk hs => rw [hs]
  | alloc es z hw hc hs => rw [hs]
  | act v hw hc H' hr hk hs => exact absurd ⟨hc, hw⟩ hn
theorem Reg.tmps (R : Reg P call nt ops ds S B) {k : Nat} {d : D} (h : ds[k]? = some d) : ∃ v, (S (k + 1)).e = put (S k).e d.o.d v := by
  cases R.way h with
  | skip hw hs => exact ⟨_, by rw [hs]⟩
  | calm v hw hc H1 hr hs => exact ⟨_, by rw [hs]⟩
  | far v hw hc H1 hr hp hs => exact ⟨_, by rw [hs]⟩
  | load v hw hc H1 hr p ce hp he hk hs => exact ⟨_, by rw [hs]⟩
  | alloc es z hw hc hs => exact ⟨_, by rw [hs]⟩
  | act v hw hc H' hr hk hs => exact ⟨_, by rw [hs]⟩
theorem look_put {e : Env} {d : Option Nat} {v : Value} {t : Nat} (h : d ≠ some t) : look (put e d v) t = look e t := by
  cases d with
  | none => rfl
  | some k =>
    simp only [M.put, look, beq_eq]
    have : k ≠ t := fun e => h (by rw [e])
    simp [this]
theorem Reg.keepT (R : Reg P call nt ops ds S B) (t : Nat) : ∀ (n m : Nat), m + n ≤ ds.length → (∀ (j : Nat) d, ds[j]? = some d → m ≤ j → j < m + n → d.o.d ≠ some t) → look (S (m + n)).e t = look (S m).e t
  | 0, m, _, _ => rfl
  | n + 1, m, hl, h => by
    have hlt : m + n < ds.length := by omega
    obtain ⟨v, hv⟩ := R.tmps (List.getElem?_eq_getElem hlt)
    rw [show m + (n + 1) = m + n + 1 by omega, hv, look_put (h _ _ (List.getElem?_eq_getElem hlt) (by omega) (by omega))]
    exact R.keepT t n m (by omega) fun j d h1 h2 h3 => h j d h1 h2 (by omega)
theorem Reg.keepH (R : Reg P call nt ops ds S B) : ∀ (n m : Nat), m + n ≤ ds.length → (∀ (j : Nat) d, ds[j]? = some d → m ≤ j → j < m + n → ¬ (d.o.i.cls = .act ∧ d.o.want (S j).e = some true)) → (S (m + n)).H = (S m).H
  | 0, m, _, _ => rfl
  | n + 1, m, hl, h => by
    have hlt : m + n < ds.length := by omega
    rw [show m + (n + 1) = m + n + 1 by omega, R.heap (List.getElem?_eq_getElem hlt) (h _ _ (List.getElem?_eq_getElem hlt) (by omega) (by omega))]
    exact R.keepH n m (by omega) fun j d h1 h2 h3 => h j d h1 h2 (by omega)
theorem Reg.szStep (R : Reg P call nt ops ds S B) {k : Nat} {d : D} (h : ds[k]? = some d) : sz S k ≤ sz S (k + 1) ∧ (S k).H.size ≤ (S (k + 1)).H.size ∧ ∀ es z, d.o.i = .alloc es z → d.o.want (S k).e = some true → sz S (k + 1) = sz S k + 1 := by
  unfold sz
  cases R.way h with
  | skip hw hs => rw [hs]; exact ⟨Nat.le_refl _, Nat.le_refl _, fun _ _ _ h2 => by rw [hw] at h2; cases h2⟩
  | calm v hw hc H1 hr hs => rw [hs]; exact ⟨Nat.le_refl _, Nat.le_refl _, fun _ _ h2 => by rw [h2] at hc; cases hc⟩
  | far v hw hc H1 hr hp hs => rw [hs]; exact ⟨Nat.le_refl _, Nat.le_refl _, fun _ _ h2 => by rw [h2] at hc; cases hc⟩
  | load v hw hc H1 hr p ce hp he hk hs => rw [hs]; exact ⟨Nat.le_refl _, Nat.le_refl _, fun _ _ h2 => by rw [h2] at hc; cases hc⟩
  | alloc es z hw hc hs => rw [hs]; simp; omega
  | act v hw hc H' hr hk hs =>
    have := I.run_size R.mono hr
    rw [pushAll_size] at this
    rw [hs]
    exact ⟨by simp; omega, by simp; omega, fun _ _ h2 => by rw [h2] at hc; cases hc⟩
theorem Reg.szMono (R : Reg P call nt ops ds S B) : ∀ (n m : Nat), m + n ≤ ds.length → sz S m ≤ sz S (m + n) ∧ (S m).H.size ≤ (S (m + n)).H.size
  | 0, m, _ => ⟨Nat.le_refl _, Nat.le_refl _⟩
  | n + 1, m, hl => by
    have hlt : m + n < ds.length := by omega
    have h1 := R.szMono n m (by omega)
    have h2 := R.szStep (List.getElem?_eq_getElem hlt)
    rw [show m + (n + 1) = m + n + 1 by omega]
    exact ⟨by omega, by omega⟩
theorem findN_cons {α : Type} (k : Nat) (v : α) (l : List (Nat × α)) (j : Nat) : findN ((k, v) :: l) j = if k = j then some v else findN l j := by
  simp only [findN, beq_eq, cond_eq_ite, decide_eq_true_eq]
/-- The heap ahead of one that acted is on record. -/
theorem Reg.hbs (R : Reg P call nt ops ds S B) : ∀ (k : Nat), k ≤ ds.length → ∀ (j : Nat) d, ds[j]? = some d → j < k → d.o.i.cls = .act → d.o.want (S j).e = some true → findN (S k).hbs j = some (S j).H
  | 0, _, j, d, _, h, _, _ => by omega
  | k + 1, hk, j, d, hd, hj, hc, hw => by
    have ih := fun h => R.hbs k (by omega) j d hd h hc hw
    have hlt : k < ds.length := by omega
    have hdk := List.getElem?_eq_getElem hlt
    have old : (S (k + 1)).hbs = (S k).hbs → findN (S (k + 1)).hbs j = some (S j).H := by
      intro e
      rw [e]
      rcases Nat.lt_or_ge j k with h | h
      · exact ih h
      · obtain rfl : j = k := by omega
        exfalso
        rw [hdk] at hd
        cases hd
        cases R.way hdk with
        | skip h1 h2 => rw [hw] at h1; cases h1
        | calm v h1 h2 => rw [hc] at h2; cases h2
        | far v h1 h2 => rw [hc] at h2; cases h2
        | load v h1 h2 => rw [hc] at h2; cases h2
        | alloc es z h1 h2 => rw [h2] at hc; cases hc
        | act v h1 h2 H' h3 h4 h5 => rw [h5] at e; simp at e
    cases R.way hdk with
    | skip h1 h2 => exact old (by rw [h2])
    | calm v h1 h2 H1 h3 h4 => exact old (by rw [h4])
    | far v h1 h2 H1 h3 h4 h5 => exact old (by rw [h5])
    | load v h1 h2 H1 h3 p ce h4 h5 h6 h7 => exact old (by rw [h7])
    | alloc es z h1 h2 h3 => exact old (by rw [h3])
    | act v h1 h2 H' h3 h4 h5 =>
      rw [h5]
      simp only [findN_cons]
      by_cases e : k = j
      · subst e; rw [if_pos rfl]
      · rw [if_neg e]; exact ih (by omega)
/-- What was looked at is on record. -/
theorem Reg.lds (R : Reg P call nt ops ds S B) : ∀ (k : Nat), k ≤ ds.length → ∀ (j : Nat) d p ce, ds[j]? = some d → j < k → d.o.i.cls = .load → d.o.want (S j).e = some true → d.o.i.peek (S j).e = some p → peekAt (S j).H p = some ce → findN (S k).lds j = some (p, ce)
  | 0, _, j, d, p, ce, _, h, _, _, _, _ => by omega
  | k + 1, hk, j, d, p, ce, hd, hj, hc, hw, hp, hpe => by
    have ih := fun h => R.lds k (by omega) j d p ce hd h hc hw hp hpe
    have hlt : k < ds.length := by omega
    have hdk := List.getElem?_eq_getElem hlt
    have old : (S (k + 1)).lds = (S k).lds → j ≠ k → findN (S (k + 1)).lds j = some (p, ce) := fun e hne => by rw [e]; exact ih (by omega)
    by_cases e : j = k
    · subst e
      rw [hdk] at hd
      cases hd
      cases R.way hdk with
      | skip h1 h2 => rw [hw] at h1; cases h1
      | calm v h1 h2 => rw [hc] at h2; cases h2
      | far v h1 h2 H1 h3 h4 h5 => rw [hp] at h4; cases h4
      | load v h1 h2 H1 h3 p' ce' h4 h5 h6 h7 =>
        rw [hp] at h4
        cases h4
        rw [hpe] at h5
        cases h5
        rw [h7]
        simp [findN_cons]
      | alloc es z h1 h2 => rw [h2] at hc; cases hc
      | act v h1 h2 => rw [hc] at h2; cases h2
    · cases R.way hdk with
      | skip h1 h2 => exact old (by rw [h2]) e
      | calm v h1 h2 H1 h3 h4 => exact old (by rw [h4]) e
      | far v h1 h2 H1 h3 h4 h5 => exact old (by rw [h5]) e
      | load v h1 h2 H1 h3 p' ce' h4 h5 h6 h7 =>
        rw [h7]
        simp only [findN_cons]
        rw [if_neg (fun e2 => e e2.symm)]
        exact ih (by omega)
      | alloc es z h1 h2 h3 => exact old (by rw [h3]) e
      | act v h1 h2 H' h3 h4 h5 => exact old (by rw [h5]) e
theorem sameVal_eq {a b : Value} (h : sameVal a b = true) : a = b := by
  unfold sameVal at h
  split at h <;> simp at h <;> first
    | (obtain ⟨⟨rfl, rfl⟩, rfl⟩ := h; rfl)
    | (obtain ⟨rfl, rfl⟩ := h; rfl)
    | (subst h; rfl)
    | rfl
    | (rename_i x y; congr; cases x; cases y; simp at h; subst h; rfl)
theorem sameVals_eq : ∀ {x y : List Value}, sameVals x y = true → x = y
  | [], [], _ => rfl
  | a :: x, b :: y, h => by
    simp only [sameVals, Bool.and_eq_true] at h
    rw [sameVal_eq h.1, sameVals_eq h.2]
  | [], _ :: _, h => by simp [sameVals] at h
  | _ :: _, [], h => by simp [sameVals] at h
theorem ldOk_eq {H : Heap} {p : Nat × Nat × Nat} {ce : List Value × Nat} (h : ldOk H p ce = true) : peekAt H p = some ce := by
  unfold ldOk at h
  split at h
  · rename_i c hc
    obtain ⟨h1, h2⟩ := ok_and h
    rw [beq_eq, decide_eq_true_eq] at h2
    have h1 := sameVals_eq h1
    rw [hc]
    obtain ⟨a, b⟩ := c
    obtain ⟨a', b'⟩ := ce
    simp only at h1 h2
    subst h1 h2
    rfl
  · cases h
theorem chkLd_mem {hbs : List (Nat × Heap)} {p : Nat × Nat × Nat} {ce : List Value × Nat} : ∀ {l : List Nat}, chkLd hbs p ce l = true → ∀ j ∈ l, ∀ H, findN hbs j = some H → peekAt H p = some ce
  | k :: r, h, j, hj, H, hf => by
    obtain ⟨h1, h2⟩ := ok_and h
    rcases List.mem_cons.1 hj with rfl | hj
    · rw [hf] at h1; exact ldOk_eq h1
    · exact chkLd_mem h2 j hj H hf
theorem chkAct_mem {lds : List (Nat × (Nat × Nat × Nat) × (List Value × Nat))} {H : Heap} : ∀ {l : List Nat}, chkAct lds H l = true → ∀ j ∈ l, ∀ p ce, findN lds j = some (p, ce) → peekAt H p = some ce
  | k :: r, h, j, hj, p, ce, hf => by
    obtain ⟨h1, h2⟩ := ok_and h
    rcases List.mem_cons.1 hj with rfl | hj
    · rw [hf] at h1; exact ldOk_eq h1
    · exact chkAct_mem h2 j hj p ce hf
end

end Go.Proofs.Ytnjmdkecpadehaa.M
