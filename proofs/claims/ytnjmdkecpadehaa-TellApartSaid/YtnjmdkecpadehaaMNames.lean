/- The framework M, twelfth text: which temps an operation reads; it reads no others. Conditions: none. -/
import Derived.Test.YtnjmdkecpadehaaMPlain
set_option linter.all false
set_option linter.unusedSimpArgs false
namespace Go.Proofs.Ytnjmdkecpadehaa.M

def X.tmps : X → List Nat
  | .t n => [n]
  | _ => []
def tmpsO : Option X → List Nat
  | some x => x.tmps
  | none => []
def tmpsL : List X → List Nat
  | [] => []
  | x :: r => x.tmps ++ tmpsL r
def tmpsP : List (Nat × Nat × X) → List Nat
  | [] => []
  | p :: r => p.2.2.tmps ++ tmpsP r
def tmpsQ : List (Nat × X) → List Nat
  | [] => []
  | p :: r => p.2.tmps ++ tmpsQ r
def I.names : I → List Nat
  | .mov x => x.tmps
  | .pick c a b => c.tmps ++ (a.tmps ++ b.tmps)
  | .alloc _ _ => []
  | .box _ x => x.tmps
  | .build _ ps => tmpsP ps
  | .bsl _ _ _ ps => tmpsQ ps
  | .load _ _ a => a.tmps
  | .store _ a x => a.tmps ++ x.tmps
  | .nilck x => x.tmps
  | .bin _ x y => x.tmps ++ y.tmps
  | .eqb _ x y => x.tmps ++ y.tmps
  | .eqs _ _ x y => x.tmps ++ y.tmps
  | .eqp _ x y => x.tmps ++ y.tmps
  | .un _ x => x.tmps
  | .conv _ x => x.tmps
  | .s2b x => x.tmps
  | .b2s x => x.tmps
  | .mki _ x => x.tmps
  | .mkf _ cs => tmpsL cs
  | .mks _ _ _ l c => l.tmps ++ c.tmps
  | .slc _ x lo hi top => x.tmps ++ (tmpsO lo ++ (tmpsO hi ++ tmpsO top))
  | .sls x lo hi => x.tmps ++ (tmpsO lo ++ tmpsO hi)
  | .fa _ a => a.tmps
  | .fld _ _ _ x => x.tmps
  | .ia _ x i => x.tmps ++ i.tmps
  | .idx x i => x.tmps ++ i.tmps
  | .ext x _ => x.tmps
  | .len x => x.tmps
  | .lens x => x.tmps
  | .app _ _ _ s x => s.tmps ++ x.tmps
  | .clr _ _ x => x.tmps
  | .mn xs => tmpsL xs
  | .mx xs => tmpsL xs
  | .call _ xs => tmpsL xs
  | .callv f xs => f.tmps ++ tmpsL xs
  | .p2u x => x.tmps
  | .u2p _ _ x => x.tmps
  | .noesc _ x => x.tmps
  | .usd x => x.tmps
  | .uss _ x n => x.tmps ++ n.tmps
def guardT : Option (Nat × Bool) → List Nat
  | some (t, _) => [t]
  | none => []
def O.names (o : O) : List Nat := o.d.toList ++ (guardT o.g ++ o.i.names)
def Same (e e2 : Env) (ns : List Nat) : Prop := ∀ t ∈ ns, look e2 t = look e t
theorem Same.left {e e2 : Env} {a b : List Nat} (h : Same e e2 (a ++ b)) : Same e e2 a := fun t ht => h t (List.mem_append_left _ ht)
theorem Same.right {e e2 : Env} {a b : List Nat} (h : Same e e2 (a ++ b)) : Same e e2 b := fun t ht => h t (List.mem_append_right _ ht)
theorem ev_same {e e2 : Env} {x : X} (h : Same e e2 x.tmps) : x.ev e2 = x.ev e := by
  cases x with
  | t n => exact h n (by simp [X.tmps])
  | c v => rfl
  | f n => rfl
theorem evo_same {e e2 : Env} {x : Option X} (h : Same e e2 (tmpsO x)) : evo e2 x = evo e x := by
  cases x with
  | none => rfl
  | some x => simp only [evo, ev_same (x := x) h]
theorem evs_same {e e2 : Env} : ∀ {xs : List X}, Same e e2 (tmpsL xs) → evs e2 xs = evs e xs
  | [], _ => rfl
  | x :: r, h => by simp only [evs, ev_same (x := x) h.left, evs_same (xs := r) h.right]
theorem evp_same {e e2 : Env} : ∀ {xs : List (Nat × Nat × X)}, Same e e2 (tmpsP xs) → evp e2 xs = evp e xs
  | [], _ => rfl
  | (o, n, x) :: r, h => by simp only [evp, ev_same (x := x) h.left, evp_same (xs := r) h.right]
theorem evq_same {e e2 : Env} (es : Nat) : ∀ {xs : List (Nat × X)}, Same e e2 (tmpsQ xs) → evp e2 (xs.map fun p => (p.1 * es, es, p.2)) = evp e (xs.map fun p => (p.1 * es, es, p.2))
  | [], _ => rfl
  | (o, x) :: r, h => by simp only [List.map_cons, evp, ev_same (x := x) h.left, evq_same es (xs := r) h.right]
theorem I.run_same {call : CallFn} {e e2 : Env} {i : I} (h : Same e e2 i.names) (H : Heap) : i.run call e2 H = i.run call e H := by
  cases i with
  | mov x => simp only [I.run, ev_same (x := x) h]
  | pick c a b => simp only [I.run, ev_same (x := c) h.left, ev_same (x := a) h.right.left, ev_same (x := b) h.right.right]
  | alloc _ _ => rfl
  | box _ x => simp only [I.run, ev_same (x := x) h]
  | build _ ps => simp only [I.run, evp_same (xs := ps) h]
  | bsl es _ _ ps => simp only [I.run, evq_same es (xs := ps) h]
  | load _ _ a => simp only [I.run, ev_same (x := a) h]
  | store _ a x => simp only [I.run, ev_same (x := a) h.left, ev_same (x := x) h.right]
  | nilck x => simp only [I.run, ev_same (x := x) h]
  | bin _ x y => simp only [I.run, ev_same (x := x) h.left, ev_same (x := y) h.right]
  | eqb _ x y => simp only [I.run, ev_same (x := x) h.left, ev_same (x := y) h.right]
  | eqs _ _ x y => simp only [I.run, ev_same (x := x) h.left, ev_same (x := y) h.right]
  | eqp _ x y => simp only [I.run, ev_same (x := x) h.left, ev_same (x := y) h.right]
  | un _ x => simp only [I.run, ev_same (x := x) h]
  | conv _ x => simp only [I.run, ev_same (x := x) h]
  | s2b x => simp only [I.run, ev_same (x := x) h]
  | b2s x => simp only [I.run, ev_same (x := x) h]
  | mki _ x => simp only [I.run, ev_same (x := x) h]
  | mkf _ cs => simp only [I.run, evs_same (xs := cs) h]
  | mks _ _ _ l c => simp only [I.run, ev_same (x := l) h.left, ev_same (x := c) h.right]
  | slc _ x lo hi top => simp only [I.run, ev_same (x := x) h.left, evo_same (x := lo) h.right.left, evo_same (x := hi) h.right.right.left, evo_same (x := top) h.right.right.right]
  | sls x lo hi => simp only [I.run, ev_same (x := x) h.left, evo_same (x := lo) h.right.left, evo_same (x := hi) h.right.right]
  | fa _ a => simp only [I.run, ev_same (x := a) h]
  | fld _ _ _ x => simp only [I.run, ev_same (x := x) h]
  | ia _ x j => simp only [I.run, ev_same (x := x) h.left, ev_same (x := j) h.right]
  | idx x j => simp only [I.run, ev_same (x := x) h.left, ev_same (x := j) h.right]
  | ext x _ => simp only [I.run, ev_same (x := x) h]
  | len x => simp only [I.run, ev_same (x := x) h]
  | lens x => simp only [I.run, ev_same (x := x) h]
  | app _ _ _ s x => simp only [I.run, ev_same (x := s) h.left, ev_same (x := x) h.right]
  | clr _ _ x => simp only [I.run, ev_same (x := x) h]
  | mn xs => simp only [I.run, evs_same (xs := xs) h]
  | mx xs => simp only [I.run, evs_same (xs := xs) h]
  | call _ xs => simp only [I.run, evs_same (xs := xs) h]
  | callv f xs => simp only [I.run, ev_same (x := f) h.left, evs_same (xs := xs) h.right]
  | p2u x => simp only [I.run, ev_same (x := x) h]
  | u2p _ _ x => simp only [I.run, ev_same (x := x) h]
  | noesc _ x => simp only [I.run, ev_same (x := x) h]
  | usd x => simp only [I.run, ev_same (x := x) h]
  | uss _ x n => simp only [I.run, ev_same (x := x) h.left, ev_same (x := n) h.right]
theorem want_same {e e2 : Env} {o : O} (h : Same e e2 (guardT o.g)) : o.want e2 = o.want e := by
  unfold O.want
  cases hg : o.g with
  | none => rfl
  | some p =>
    obtain ⟨t, b⟩ := p
    rw [hg] at h
    simp only [h t (by simp [guardT])]
/-- What is calm doesn't look at the heap. -/
theorem I.run_calm {call : CallFn} {e : Env} {i : I} (hc : i.cls = .calm) {H H' : Heap} {v : Value} (h : i.run call e H = some (v, H')) : H' = H ∧ ∀ H2, i.run call e H2 = some (v, H2) := by
  cases i <;> (first | (simp [I.cls] at hc; done) | skip) <;> simp only [I.run, cond_eq_ite] at h ⊢
  all_goals repeat' (first
    | (cases h; done)
    | (cases h; exact ⟨rfl, fun H2 => by simp_all⟩)
    | split at h)
theorem I.run_peek {call : CallFn} {e : Env} {i : I} (hc : i.cls = .load) {H H' H2 : Heap} {v : Value} (h : i.run call e H = some (v, H')) :
    H' = H ∧ (i.peek e = none → i.run call e H2 = some (v, H2)) ∧ ∀ p ce, i.peek e = some p → peekAt H p = some ce → peekAt H2 p = some ce → i.run call e H2 = some (v, H2) := by
  cases i <;> (first | (simp [I.cls] at hc; done) | skip)
  case load agg n a =>
    simp only [I.run] at h ⊢
    split at h
    · rename_i b off hv
      have hp : (I.load agg n a).peek e = some (b, off, n) := by simp [I.peek, hv]
      have key : ∀ ce, peekAt H (b, off, n) = some ce → H.loadN b off n = some ce.1 := fun ce hce => by
        unfold peekAt at hce
        split at hce
        · split at hce
          · rename_i hl; cases hce; exact hl
          · cases hce
        · cases hce
      have key2 : ∀ ce, peekAt H2 (b, off, n) = some ce → H2.loadN b off n = some ce.1 := fun ce hce => by
        unfold peekAt at hce
        split at hce
        · split at hce
          · rename_i hl; cases hce; exact hl
          · cases hce
        · cases hce
      refine ⟨?_, fun hn => (by rw [hp] at hn; cases hn), fun p ce h1 h2 h3 => ?_⟩
      · split at h
        · rw [cond_eq_ite] at h
          split at h
          · cases h; rfl
          · split at h <;> cases h; rfl
        · cases h
      · rw [hp] at h1
        cases h1
        rw [key ce h2] at h
        simp only [key2 ce h3]
        simp only [cond_eq_ite] at h ⊢
        split at h
        · cases h; simp_all
        · split at h <;> cases h; simp_all
    · cases h
  case slc es x lo hi top =>
    simp only [I.run] at h ⊢
    split at h
    · rename_i b n c l hh m h1 h2 h3 h4
      cases e1 : bound m c c with
      | none => rw [e1] at h; cases h
      | some m' =>
        rw [e1] at h
        simp only at h ⊢
        cases e2 : bound hh m' n with
        | none => rw [e2] at h; cases h
        | some h' =>
          rw [e2] at h
          simp only at h ⊢
          cases e3 : bound l h' 0 with
          | none => rw [e3] at h; cases h
          | some l' =>
            rw [e3] at h
            simp only at h ⊢
            cases b with
            | none =>
              simp only [cond_eq_ite] at h ⊢
              have hp : (I.slc es x lo hi top).peek e = none := by simp [I.peek, h1]
              split at h
              · cases h
                rename_i hc9
                exact ⟨rfl, fun _ => (by rw [if_pos hc9]), fun p ce k1 => (by rw [hp] at k1; cases k1)⟩
              · cases h
            | some b =>
              obtain ⟨b0, off, sp⟩ := b
              cases sp with
              | some q => cases h
              | none =>
                simp only at h ⊢
                cases hcz : Nat.beq c 0 with
                | true =>
                  have hp : (I.slc es x lo hi top).peek e = none := by simp only [I.peek, h1, hcz, cond_true]
                  rw [hcz, cond_true] at h
                  cases h
                  simp only [cond_true]
                  exact ⟨trivial, fun _ => trivial, fun p ce k1 => (by rw [hp] at k1; cases k1)⟩
                | false =>
                have hp : (I.slc es x lo hi top).peek e = some (b0, 0, 0) := by simp only [I.peek, h1, hcz, cond_false]
                rw [hcz, cond_false] at h
                simp only [cond_false]
                split at h
                · rename_i row hrow
                  simp only [cond_eq_ite] at h
                  split at h
                  · rename_i hes
                    cases h
                    refine ⟨rfl, fun hn => (by rw [hp] at hn; cases hn), fun p ce k1 k2 k3 => ?_⟩
                    rw [hp] at k1
                    cases k1
                    have a1 : ce.2 = row.es := by
                      unfold peekAt at k2
                      simp only [hrow] at k2
                      split at k2 <;> cases k2
                      rfl
                    unfold peekAt at k3
                    split at k3
                    · rename_i row2 hrow2
                      simp only at hrow2
                      rw [hrow2]
                      split at k3 <;> cases k3
                      simp only at a1
                      simp only [cond_eq_ite]
                      rw [a1, if_pos hes]
                    · cases k3
                  · cases h
                · cases h
    · cases h

end Go.Proofs.Ytnjmdkecpadehaa.M
