/- The framework N, third text: operations that act on nothing, and loads: N's answer stands to M's. Conditions: as the laws say. -/
import Derived.Test.YtnjmdkecpadehaaN2
set_option linter.all false
set_option linter.unusedSimpArgs false
namespace Go.Proofs.Ytnjmdkecpadehaa.M

section
variable {φ : NPhi} {V : View}
theorem N3.v {x u : Value} (h : N3 φ V (.v x) u) : u = x ∧ flatV x = true := h
theorem N3.nils {u : Value} (h : N3 φ V .nils u) : u = .slice none 0 0 := h
theorem N3.emp {w : Nat} {u : Value} (h : N3 φ V (.emp w) u) : ∃ b off row, u = .slice (some ⟨b, off, none⟩) 0 0 ∧ V b = some row ∧ row.es = w ∧ off < row.cells.length := h
theorem N3.fsl {s : Sh} {l : List (Dat s)} {u : Value} (h : N3 φ V (.fsl s l) u) : ∃ cells, ArrF V u (List.length l) s.width cells ∧ DenL (RdF V s) l cells := by
  obtain ⟨v, cells, e, h1, h2⟩ := (show RdF V (.sl s) l [u] from h)
  cases e
  exact ⟨cells, h1, h2⟩
theorem N3.sl {r i n c : Nat} {u : Value} (h : N3 φ V (.sl r i n c) u) : (φ r = some .nil ∧ i = 0 ∧ n = 0 ∧ c = 0 ∧ u = .slice none 0 0) ∨ ∃ b w, φ r = some (.at b w) ∧ u = .slice (some ⟨b, i * w, none⟩) n c := h
theorem N3.ptr {r i o : Nat} {u : Value} (h : N3 φ V (.ptr r i o) u) : ∃ b w, φ r = some (.at b w) ∧ u = .pointer (some ⟨b, i * w + o, none⟩) := h
theorem N3.fptr {s : Sh} {l : List (Dat s)} {i o : Nat} {u : Value} (h : N3 φ V (.fptr s l i o) u) : i < List.length l ∧ ∃ b off cells row, V b = some row ∧ off + List.length l * s.width ≤ row.cells.length ∧ cells = (row.cells.drop off).take (List.length l * s.width) ∧ DenL (RdF V s) l cells ∧ u = .pointer (some ⟨b, off + i * s.width + o, none⟩) := h
theorem N3.agg {cs : List NV} {u : Value} (h : N3 φ V (.agg cs) u) : ∃ a : Array Value, u = .agg a ∧ L2 (N0 φ V) cs a.toList := h
theorem N3.tup {vs : List NV} {u : Value} (h : N3 φ V (.tup vs) u) : ∃ a : Array Value, u = .tuple a ∧ L2 (N1 φ V) vs a.toList := h
theorem N3.fn {f : Nat} {vs : List NV} {u : Value} (h : N3 φ V (.fn f vs) u) : ∃ a : Array Value, u = .func (.func f) #[] a ∧ L2 (N1 φ V) vs a.toList := h
theorem N3.unit : N3 φ V unitN unit := ⟨#[], rfl, trivial⟩
theorem N3.mk_v {x : Value} (h : flatV x = true) : N3 φ V (.v x) x := ⟨rfl, h⟩
theorem N3.mk_agg {cs : List NV} {us : List Value} (h : L2 (N0 φ V) cs us) : N3 φ V (.agg cs) (.agg us.toArray) := ⟨us.toArray, rfl, h⟩

theorem nvC0_sound {v : Value} {x : NV} (h : nvC0 v = some x) : N0 φ V x v := by
  unfold nvC0 at h
  split at h <;> cases h <;> first
    | exact ⟨rfl, rfl⟩
    | rfl
theorem nvCs_sound : ∀ {vs : List Value} {l : List NV}, nvCs vs = some l → L2 (N0 φ V) l vs
  | [], l, h => by cases h; exact trivial
  | v :: r, l, h => by
    simp only [nvCs] at h
    split at h <;> cases h
    rename_i h1 h2
    exact ⟨nvC0_sound h1, nvCs_sound h2⟩
theorem nvC_sound {v : Value} {x : NV} (h : nvC v = some x) : N3 φ V x v := by
  unfold nvC at h
  split at h
  · split at h <;> cases h
    rename_i h1
    exact ⟨_, rfl, nvCs_sound h1⟩
  · exact .of0 (nvC0_sound h)
variable {e : NEnv} {em : Env}
theorem nev_sound (he : EN φ V e em) {x : X} {v : NV} (h : nev e x = some v) : ∃ u, x.ev em = some u ∧ N3 φ V v u := by
  cases x with
  | t n => exact he n v h
  | c w => exact ⟨w, rfl, nvC_sound h⟩
  | f n => cases h; exact ⟨_, rfl, #[], rfl, trivial⟩
theorem nevs_sound (he : EN φ V e em) : ∀ {xs : List X} {vs : List NV}, nevs e xs = some vs → ∃ us, evs em xs = some us ∧ L2 (N3 φ V) vs us
  | [], vs, h => by cases h; exact ⟨[], rfl, trivial⟩
  | x :: r, vs, h => by
    simp only [nevs] at h
    split at h <;> cases h
    rename_i h1 h2
    obtain ⟨u, e1, k1⟩ := nev_sound he h1
    obtain ⟨us, e2, k2⟩ := nevs_sound he h2
    exact ⟨u :: us, by simp only [evs, e1, e2], k1, k2⟩
def NPR (φ : NPhi) (V : View) (a : Nat × Nat × NV) (b : Nat × Nat × Value) : Prop := a.1 = b.1 ∧ a.2.1 = b.2.1 ∧ N3 φ V a.2.2 b.2.2
theorem nevp_sound (he : EN φ V e em) : ∀ {xs : List (Nat × Nat × X)} {vs : List (Nat × Nat × NV)}, nevp e xs = some vs → ∃ us, evp em xs = some us ∧ L2 (NPR φ V) vs us
  | [], vs, h => by cases h; exact ⟨[], rfl, trivial⟩
  | (o, n, x) :: r, vs, h => by
    simp only [nevp] at h
    split at h <;> cases h
    rename_i h1 h2
    obtain ⟨u, e1, k1⟩ := nev_sound he h1
    obtain ⟨us, e2, k2⟩ := nevp_sound he h2
    exact ⟨(o, n, u) :: us, by simp only [evp, e1, e2], ⟨rfl, rfl, k1⟩, k2⟩
theorem nevq_sound (he : EN φ V e em) (es : Nat) : ∀ {xs : List (Nat × X)} {vs : List (Nat × NV)}, nevq e xs = some vs → ∃ us, evp em (xs.map fun p => (p.1 * es, es, p.2)) = some us ∧ L2 (fun (a : Nat × NV) (b : Nat × Nat × Value) => b.1 = a.1 * es ∧ b.2.1 = es ∧ N3 φ V a.2 b.2.2) vs us
  | [], vs, h => by cases h; exact ⟨[], rfl, trivial⟩
  | (o, x) :: r, vs, h => by
    simp only [nevq] at h
    split at h <;> cases h
    rename_i h1 h2
    obtain ⟨u, e1, k1⟩ := nev_sound he h1
    obtain ⟨us, e2, k2⟩ := nevq_sound he es h2
    exact ⟨(o * es, es, u) :: us, by simp only [List.map_cons, evp, e1, e2], ⟨rfl, rfl, k1⟩, k2⟩
def NOR (φ : NPhi) (V : View) : Option NV → Option Value → Prop
  | none, none => True
  | some x, some u => N3 φ V x u
  | _, _ => False
theorem nevo_sound (he : EN φ V e em) {x : Option X} {v : Option NV} (h : nevo e x = some v) : ∃ u, evo em x = some u ∧ NOR φ V v u := by
  cases x with
  | none => cases h; exact ⟨none, rfl, trivial⟩
  | some x =>
    simp only [nevo] at h
    split at h <;> cases h
    rename_i h1
    obtain ⟨u, e1, k1⟩ := nev_sound he h1
    exact ⟨some u, by simp only [evo, e1], k1⟩
theorem ncells_sound {x : NV} {u : Value} {cs : List NV} (h : N3 φ V x u) (hc : ncells x = some cs) : ∃ us, cellsOf u = some us ∧ L2 (N0 φ V) cs us := by
  cases x with
  | agg ds =>
    cases hc
    obtain ⟨a, rfl, k⟩ := h.agg
    exact ⟨a.toList, rfl, k⟩
  | tup _ => cases hc
  | fn _ _ => cases hc
  | v y =>
    cases hc
    obtain ⟨rfl, hf⟩ := h.v
    refine ⟨[u], ?_, ⟨⟨rfl, hf⟩, trivial⟩⟩
    unfold flatV at hf
    split at hf <;> first
      | rfl
      | cases hf
  | nils => cases hc; obtain rfl := h.nils; exact ⟨_, rfl, rfl, trivial⟩
  | emp w => cases hc; have h0 := h; obtain ⟨b, off, row, rfl, _⟩ := h.emp; exact ⟨_, rfl, h0, trivial⟩
  | fsl s l =>
    cases hc
    have h0 := h
    obtain ⟨cells, k, _⟩ := h.fsl
    rcases k with ⟨_, _, a, rfl, _⟩ | ⟨b, off, c, row, rfl, _⟩
    · exact ⟨_, rfl, h0, trivial⟩
    · exact ⟨_, rfl, h0, trivial⟩
  | sl r i n c =>
    cases hc
    have h0 := h
    rcases h.sl with ⟨_, _, _, _, rfl⟩ | ⟨b, w, _, rfl⟩
    · exact ⟨_, rfl, h0, trivial⟩
    · exact ⟨_, rfl, h0, trivial⟩
  | ptr r i o => cases hc; have h0 := h; obtain ⟨b, w, _, rfl⟩ := h.ptr; exact ⟨_, rfl, h0, trivial⟩
  | fptr s l i o => cases hc; have h0 := h; obtain ⟨_, b, off, cells, row, _, _, _, _, rfl⟩ := h.fptr; exact ⟨_, rfl, h0, trivial⟩
theorem nfill_sound : ∀ {ps : List (Nat × Nat × NV)} {qs : List (Nat × Nat × Value)} {cells out : List NV} {us : List Value}, L2 (NPR φ V) ps qs → L2 (N0 φ V) cells us → nfill ps cells = some out → ∃ vs, fillM qs us = some vs ∧ L2 (N0 φ V) out vs
  | [], [], cells, out, us, _, hc, h => by cases h; exact ⟨us, rfl, hc⟩
  | (off, size, x) :: ps, (off', size', u) :: qs, cells, out, us, hp, hc, h => by
    obtain ⟨⟨e1, e2, hx⟩, hp⟩ := hp
    simp only at e1 e2 hx
    subst e1 e2
    simp only [nfill] at h
    split at h
    · rename_i cs h1
      obtain ⟨vs, e3, k3⟩ := ncells_sound hx h1
      split at h
      · rename_i h2
        have l1 := k3.length
        have l2 := hc.length
        obtain ⟨ws, e4, k4⟩ := nfill_sound hp (by
          unfold nsplice splice
          rw [← l1]
          exact L2.append (L2.append (hc.take off) k3) (hc.drop (off + cs.length)) : L2 (N0 φ V) (nsplice cells off cs) (splice us off vs)) h
        refine ⟨ws, ?_, k4⟩
        simp only [fillM, e3, cond_eq_ite, Bool.and_eq_true, beq_eq, decide_eq_true_eq, Nat.ble_eq]
        rw [if_pos ⟨by omega, by omega⟩]
        exact e4
      · cases h
    · cases h
  | [], _ :: _, _, _, _, hp, _, _ => hp.elim
  | _ :: _, [], _, _, _, hp, _, _ => hp.elim
theorem neqC_sound {k : Nat} {x y : NV} {u v : Value} {p : Bool} (hx : N0 φ V x u) (hy : N0 φ V y v) (h : neqC k x y = some p) : eqCell k u v = some p := by
  unfold neqC at h
  split at h
  · obtain ⟨rfl, _⟩ := (show _ ∧ _ from hx)
    obtain ⟨rfl, _⟩ := (show _ ∧ _ from hy)
    exact h
  · cases h
theorem neqCs_sound : ∀ {ks : List Nat} {a b : List NV} {x y : List Value} {p : Bool}, L2 (N0 φ V) a x → L2 (N0 φ V) b y → neqCs ks a b = some p → eqCells ks x y = some p
  | [], [], [], [], [], p, _, _, h => h
  | k :: ks, a :: x, b :: y, u :: us, v :: vs, p, h1, h2, h => by
    simp only [neqCs] at h
    split at h <;> cases h
    rename_i k1 k2
    simp only [eqCells, neqC_sound h1.1 h2.1 k1, neqCs_sound h1.2 h2.2 k2]
  | [], [], [], _ :: _, _, _, h, _, _ => h.elim
  | [], [], [], [], _ :: _, _, _, h, _ => h.elim
  | [], [], _ :: _, _, _, _, _, _, h => by simp [neqCs] at h
  | [], _ :: _, _, _, _, _, _, _, h => by simp [neqCs] at h
  | _ :: _, [], _, _, _, _, _, _, h => by simp [neqCs] at h
  | _ :: _, _ :: _, [], _, _, _, _, _, h => by simp [neqCs] at h
  | _ :: _, _ :: _, _ :: _, [], _, _, h, _, _ => h.elim
  | _ :: _, _ :: _, _ :: _, _ :: _, [], _, _, h, _ => h.elim
theorem flat_binV {o : BinOp} {a b r : Value} (h : binV o a b = some r) : flatV r = true := by
  unfold binV at h
  split at h
  · split at h
    · unfold shiftBy at h
      split at h
      · cases h
      · split at h <;> cases h <;> rfl
    · split at h
      · unfold intOp at h
        split at h <;> first
          | (cases h; rfl)
          | (split at h <;> cases h; rfl)
          | cases h
      · cases h
  · unfold strOp at h
    split at h <;> first
      | (cases h; rfl)
      | (split at h <;> cases h; rfl)
      | cases h
  · cases h
theorem flat_unV {o : UnOp} {a r : Value} (h : unV o a = some r) : flatV r = true := by
  unfold unV at h
  split at h <;> cases h <;> rfl
theorem flat_minL {k : IntKind} : ∀ {l : List Value} {a : Int} {r : Value}, minL k a l = some r → flatV r = true
  | [], a, r, h => by cases h; rfl
  | v :: l, a, r, h => by
    cases v <;> first
      | (simp [minL] at h; done)
      | exact flat_minL (l := l) h
theorem flat_maxL {k : IntKind} : ∀ {l : List Value} {a : Int} {r : Value}, maxL k a l = some r → flatV r = true
  | [], a, r, h => by cases h; rfl
  | v :: l, a, r, h => by
    cases v <;> first
      | (simp [maxL] at h; done)
      | exact flat_maxL (l := l) h
theorem nvals_sound : ∀ {l : List NV} {vs us : List Value}, nvals l = some vs → L2 (N3 φ V) l us → us = vs
  | [], vs, us, h, k => by cases h; exact k.nil_left
  | x :: l, vs, us, h, k => by
    cases x <;> try (simp [nvals] at h; done)
    rename_i y
    obtain ⟨b, y', rfl, k1, k2⟩ := k.cons_left
    simp only [nvals] at h
    split at h <;> cases h
    rename_i h1
    obtain ⟨rfl, _⟩ := k1.v
    rw [nvals_sound h1 k2]
theorem nbound_sound {x : Option NV} {u : Option Value} {y d k : Nat} (h : nbound x y d = some k) (hx : NOR φ V x u) : bound u y d = some k := by
  cases x with
  | none => cases u with
    | none => exact h
    | some u => exact hx.elim
  | some x =>
    cases u with
    | none => exact hx.elim
    | some u =>
      have hx' : N3 φ V x u := hx
      unfold nbound at h
      split at h
      · rename_i hh; cases hh
      · rename_i hh
        cases hh
        obtain ⟨rfl, _⟩ := hx'.v
        exact h
      · cases h
theorem nbnd_sound {lo hi top : Option NV} {l h m : Option Value} {n c : Nat} {q : Nat × Nat × Nat} (k : nbnd lo hi top n c = some q) (h1 : NOR φ V lo l) (h2 : NOR φ V hi h) (h3 : NOR φ V top m) :
    bound m c c = some q.2.2 ∧ bound h q.2.2 n = some q.2.1 ∧ bound l q.2.1 0 = some q.1 := by
  unfold nbnd at k
  split at k
  · cases k
  · rename_i e1
    split at k
    · cases k
    · rename_i e2
      split at k
      · cases k
      · rename_i e3
        cases k
        exact ⟨nbound_sound e1 h3, nbound_sound e2 h2, nbound_sound e3 h1⟩
theorem bound_le {x : Option Value} {y d k : Nat} (h : bound x y d = some k) : k ≤ max y d := by
  unfold bound at h
  split at h
  · cases h; omega
  · split at h <;> cases h
    rename_i i hi
    have := hi.2
    have := hi.1
    omega
  · cases h
/-- Operations that act on nothing. -/
theorem ncalm_sound (he : EN φ V e em) {h h' : NHeap} {K : View} {H : Heap} (sim : SimH φ V K h H) {i : I} (hc : i.cls = .calm) {x : NV} (hr : nrun e h i = some (x, h')) : h' = h ∧ ∃ u, i.run noCall em H = some (u, H) ∧ N3 φ V x u := by
  cases i <;> try (cases hc; done)
  case mov y =>
    simp only [nrun] at hr
    cases hy : nev e y with
    | none => rw [hy] at hr; cases hr
    | some v =>
      obtain ⟨u, e1, k1⟩ := nev_sound he hy
      rw [hy] at hr
      cases hr
      exact ⟨rfl, u, by simp only [I.run, e1], k1⟩
  case pick c a b =>
    simp only [nrun] at hr
    cases hy : nev e c with
    | none => rw [hy] at hr; cases hr
    | some vc =>
      cases ha : nev e a with
      | none => rw [hy, ha] at hr; cases hr
      | some va =>
        cases hb : nev e b with
        | none => rw [hy, ha, hb] at hr; cases hr
        | some vb =>
          obtain ⟨uc, e1, k1⟩ := nev_sound he hy
          obtain ⟨ua, e2, k2⟩ := nev_sound he ha
          obtain ⟨ub, e3, k3⟩ := nev_sound he hb
          rw [hy, ha, hb] at hr
          simp only [nap3] at hr
          unfold npick at hr
          split at hr
          · rename_i p a b
            cases hr
            obtain ⟨rfl, _⟩ := k1.v
            obtain ⟨rfl, _⟩ := k2.v
            obtain ⟨rfl, _⟩ := k3.v
            exact ⟨rfl, .bool (bif p then a else b), by simp only [I.run, e1, e2, e3]; cases p <;> rfl, N3.mk_v rfl⟩
          · cases hr
            obtain ⟨rfl, _⟩ := k1.v
            exact ⟨rfl, ua, by simp only [I.run, e1, e2, e3]; rfl, k2⟩
          · cases hr
            obtain ⟨rfl, _⟩ := k1.v
            exact ⟨rfl, ub, by simp only [I.run, e1, e2, e3]; rfl, k3⟩
          · cases hr
  case build z ps =>
    simp only [nrun] at hr
    cases hz : nvCs z with
    | none => rw [hz] at hr; cases hr
    | some zc =>
      cases hp : nevp e ps with
      | none => rw [hz, hp] at hr; cases hr
      | some vp =>
        rw [hz, hp] at hr
        simp only [nbuild] at hr
        cases hf : nfill vp zc with
        | none => rw [hf] at hr; cases hr
        | some out =>
          rw [hf] at hr
          cases hr
          obtain ⟨us, e1, k1⟩ := nevp_sound he hp
          obtain ⟨vs, e2, k2⟩ := nfill_sound k1 (nvCs_sound hz) hf
          exact ⟨rfl, _, by simp only [I.run, e1, e2], N3.mk_agg k2⟩
  case nilck y =>
    simp only [nrun] at hr
    cases hy : nev e y with
    | none => rw [hy] at hr; cases hr
    | some v =>
      obtain ⟨u, e1, k1⟩ := nev_sound he hy
      rw [hy] at hr
      simp only [nap1] at hr
      unfold nnilck at hr
      split at hr <;> cases hr
      · obtain ⟨b, w, _, rfl⟩ := k1.ptr
        exact ⟨rfl, _, by simp only [I.run, e1], k1⟩
      · obtain ⟨_, b, off, cells, row, _, _, _, _, rfl⟩ := k1.fptr
        exact ⟨rfl, _, by simp only [I.run, e1], k1⟩
  case bin o y z =>
    simp only [nrun] at hr
    cases hy : nev e y with
    | none => rw [hy] at hr; cases hr
    | some vy =>
      cases hz : nev e z with
      | none => rw [hy, hz] at hr; cases hr
      | some vz =>
        obtain ⟨uy, e1, k1⟩ := nev_sound he hy
        obtain ⟨uz, e2, k2⟩ := nev_sound he hz
        rw [hy, hz] at hr
        simp only [nap2] at hr
        unfold nbin at hr
        split at hr
        · obtain ⟨rfl, _⟩ := k1.v
          obtain ⟨rfl, _⟩ := k2.v
          cases hb : binV o uy uz with
          | none => rw [hb] at hr; cases hr
          | some r =>
            rw [hb] at hr
            cases hr
            exact ⟨rfl, r, by simp only [I.run, e1, e2, hb], N3.mk_v (flat_binV hb)⟩
        · cases hr
  case eqb q y z =>
    simp only [nrun] at hr
    cases hy : nev e y with
    | none => rw [hy] at hr; cases hr
    | some vy =>
      cases hz : nev e z with
      | none => rw [hy, hz] at hr; cases hr
      | some vz =>
        obtain ⟨uy, e1, k1⟩ := nev_sound he hy
        obtain ⟨uz, e2, k2⟩ := nev_sound he hz
        rw [hy, hz] at hr
        simp only [nap2] at hr
        unfold neqb at hr
        split at hr <;> cases hr
        obtain ⟨rfl, _⟩ := k1.v
        obtain ⟨rfl, _⟩ := k2.v
        exact ⟨rfl, _, by simp only [I.run, e1, e2], N3.mk_v rfl⟩
  case eqs q ks y z =>
    simp only [nrun] at hr
    cases hy : nev e y with
    | none => rw [hy] at hr; cases hr
    | some vy =>
      cases hz : nev e z with
      | none => rw [hy, hz] at hr; cases hr
      | some vz =>
        obtain ⟨uy, e1, k1⟩ := nev_sound he hy
        obtain ⟨uz, e2, k2⟩ := nev_sound he hz
        rw [hy, hz] at hr
        simp only [nap2] at hr
        unfold neqs at hr
        split at hr
        · obtain ⟨a, rfl, l1⟩ := k1.agg
          obtain ⟨b, rfl, l2⟩ := k2.agg
          rename_i p q'
          cases hb : neqCs ks p q' with
          | none => rw [hb] at hr; cases hr
          | some r =>
            rw [hb] at hr
            cases hr
            exact ⟨rfl, _, by simp only [I.run, e1, e2, neqCs_sound l1 l2 hb], N3.mk_v rfl⟩
        · cases hr
  case eqp q y z =>
    simp only [nrun] at hr
    cases hy : nev e y with
    | none => rw [hy] at hr; cases hr
    | some vy =>
      cases hz : nev e z with
      | none => rw [hy, hz] at hr; cases hr
      | some vz =>
        obtain ⟨uy, e1, k1⟩ := nev_sound he hy
        obtain ⟨uz, e2, k2⟩ := nev_sound he hz
        rw [hy, hz] at hr
        simp only [nap2] at hr
        unfold neqp at hr
        split at hr
        · cases hr
          obtain ⟨b, w, _, rfl⟩ := k1.ptr
          obtain ⟨rfl, _⟩ := k2.v
          exact ⟨rfl, .bool q, by simp only [I.run, e1, e2]; cases q <;> rfl, N3.mk_v rfl⟩
        · cases hr
          obtain ⟨_, b, off, cells, row, _, _, _, _, rfl⟩ := k1.fptr
          obtain ⟨rfl, _⟩ := k2.v
          exact ⟨rfl, .bool q, by simp only [I.run, e1, e2]; cases q <;> rfl, N3.mk_v rfl⟩
        · cases hr
          obtain ⟨rfl, _⟩ := k1.v
          obtain ⟨rfl, _⟩ := k2.v
          exact ⟨rfl, .bool !q, by simp only [I.run, e1, e2]; cases q <;> rfl, N3.mk_v rfl⟩
        · split at hr <;> cases hr
          rename_i hh
          obtain ⟨rfl, rfl, rfl⟩ := hh
          obtain ⟨b, w, p1, rfl⟩ := k1.ptr
          obtain ⟨b', w', p2, rfl⟩ := k2.ptr
          rw [p1] at p2
          cases p2
          exact ⟨rfl, .bool !q, by simp only [I.run, e1, e2, if_pos], N3.mk_v rfl⟩
        · cases hr
  case un o y =>
    simp only [nrun] at hr
    cases hy : nev e y with
    | none => rw [hy] at hr; cases hr
    | some v =>
      obtain ⟨u, e1, k1⟩ := nev_sound he hy
      rw [hy] at hr
      simp only [nap1] at hr
      unfold nun at hr
      split at hr
      · obtain ⟨rfl, _⟩ := k1.v
        cases hb : unV o u with
        | none => rw [hb] at hr; cases hr
        | some r =>
          rw [hb] at hr
          cases hr
          exact ⟨rfl, r, by simp only [I.run, e1, hb], N3.mk_v (flat_unV hb)⟩
      · cases hr
  case conv k y =>
    simp only [nrun] at hr
    cases hy : nev e y with
    | none => rw [hy] at hr; cases hr
    | some v =>
      obtain ⟨u, e1, k1⟩ := nev_sound he hy
      rw [hy] at hr
      simp only [nap1] at hr
      unfold nconv at hr
      split at hr <;> cases hr
      obtain ⟨rfl, _⟩ := k1.v
      exact ⟨rfl, _, by simp only [I.run, e1], N3.mk_v rfl⟩
  case mki t y =>
    simp only [nrun] at hr
    cases hy : nev e y with
    | none => rw [hy] at hr; cases hr
    | some v =>
      obtain ⟨u, e1, k1⟩ := nev_sound he hy
      rw [hy] at hr
      simp only [nap1] at hr
      unfold nmki at hr
      split at hr <;> cases hr
      obtain ⟨rfl, _⟩ := k1.v
      exact ⟨rfl, _, by simp only [I.run, e1], N3.mk_v rfl⟩
  case mkf f cs =>
    simp only [nrun] at hr
    cases hy : nevs e cs with
    | none => rw [hy] at hr; cases hr
    | some vs =>
      rw [hy] at hr
      simp only [nmkf] at hr
      split at hr <;> cases hr
      rename_i hall
      obtain ⟨us, e1, k1⟩ := nevs_sound he hy
      have key : ∀ (l : List NV) (us : List Value), l.all isFlat1 = true → L2 (N3 φ V) l us → L2 (N1 φ V) l us ∧ us.all simpleV = true := by
        intro l
        induction l with
        | nil => intro us _ h; rw [h.nil_left]; exact ⟨trivial, rfl⟩
        | cons a l ih =>
          intro us h1 h2
          obtain ⟨b, y', rfl, g1, g2⟩ := h2.cons_left
          simp only [List.all_cons, Bool.and_eq_true] at h1
          obtain ⟨i1, i2⟩ := ih _ h1.2 g2
          have hb : N1 φ V a b ∧ simpleV b = true := by
            cases a <;> try (simp [isFlat1] at h1; done)
            case v x =>
              refine ⟨g1, ?_⟩
              obtain ⟨rfl, hf⟩ := g1.v
              unfold flatV at hf
              split at hf <;> first
                | rfl
                | cases hf
            case nils => exact ⟨g1, by rw [g1.nils]; rfl⟩
            case emp => exact ⟨g1, by obtain ⟨_, _, _, rfl, _⟩ := g1.emp; rfl⟩
            case fsl =>
              refine ⟨g1, ?_⟩
              obtain ⟨cells, k, _⟩ := g1.fsl
              rcases k with ⟨_, _, a, rfl, _⟩ | ⟨b, off, c, row, rfl, _⟩ <;> rfl
            case sl =>
              refine ⟨g1, ?_⟩
              rcases g1.sl with ⟨_, _, _, _, rfl⟩ | ⟨b, w, _, rfl⟩ <;> rfl
            case ptr => exact ⟨g1, by obtain ⟨_, _, _, rfl⟩ := g1.ptr; rfl⟩
            case fptr => exact ⟨g1, by obtain ⟨_, _, _, _, _, _, _, _, _, rfl⟩ := g1.fptr; rfl⟩
            case agg => exact ⟨g1, by obtain ⟨_, rfl, _⟩ := g1.agg; rfl⟩
          exact ⟨⟨hb.1, i1⟩, by simp only [List.all_cons, hb.2, i2, Bool.and_self]⟩
      obtain ⟨i1, i2⟩ := key vs us hall k1
      exact ⟨rfl, _, by simp only [I.run, e1, i2, cond_true], ⟨us.toArray, rfl, i1⟩⟩
  case sls y lo hi =>
    simp only [nrun] at hr
    unfold nsls at hr
    split at hr
    · rename_i s lo' hi' hy hl hh
      obtain ⟨u, e1, k1⟩ := nev_sound he hy
      obtain ⟨ul, e2, k2⟩ := nevo_sound he hl
      obtain ⟨uh, e3, k3⟩ := nevo_sound he hh
      obtain ⟨rfl, _⟩ := k1.v
      cases hb : nbnd lo' hi' none s.size s.size with
      | none => rw [hb] at hr; cases hr
      | some q =>
        obtain ⟨q1, q2, q3⟩ := q
        rw [hb] at hr
        cases hr
        obtain ⟨b1, b2, b3⟩ := nbnd_sound (m := none) hb k2 k3 trivial
        simp only [bound] at b1
        cases b1
        exact ⟨rfl, _, by simp only [I.run, e1, e2, e3, b2, b3], N3.mk_v rfl⟩
    · cases hr
  case fa off y =>
    simp only [nrun] at hr
    cases hy : nev e y with
    | none => rw [hy] at hr; cases hr
    | some v =>
      obtain ⟨u, e1, k1⟩ := nev_sound he hy
      rw [hy] at hr
      simp only [nap1] at hr
      unfold nfa at hr
      split at hr <;> cases hr
      · obtain ⟨b, w, p, rfl⟩ := k1.ptr
        exact ⟨rfl, _, by simp only [I.run, e1]; rfl, b, w, p, by rw [Nat.add_assoc]⟩
      · obtain ⟨h0, b, off', cells, row, h1, h2, h3, h4, rfl⟩ := k1.fptr
        exact ⟨rfl, _, by simp only [I.run, e1]; rfl, h0, b, off', cells, row, h1, h2, h3, h4, by rw [Nat.add_assoc]⟩
  case fld agg off n y =>
    simp only [nrun] at hr
    cases hy : nev e y with
    | none => rw [hy] at hr; cases hr
    | some v =>
      obtain ⟨u, e1, k1⟩ := nev_sound he hy
      rw [hy] at hr
      simp only [nap1] at hr
      unfold nfld at hr
      split at hr
      · rename_i cs
        obtain ⟨a, rfl, l1⟩ := k1.agg
        cases agg with
        | true =>
          simp only at hr
          split at hr <;> cases hr
          rename_i hlen
          have hl := (l1.drop off).take n
          refine ⟨rfl, .agg ((a.toList.drop off).take n).toArray, ?_, N3.mk_agg hl⟩
          have := hl.length
          simp only [I.run, e1, cond_true, beq_eq, cond_eq_ite, decide_eq_true_eq]
          rw [hlen] at this
          rw [if_pos this.symm, if_pos trivial]
        | false =>
          simp only at hr
          cases hg : cs[off]? with
          | none => rw [hg] at hr; cases hr
          | some y =>
            rw [hg] at hr
            cases hr
            obtain ⟨b, e2, k2⟩ := L2.get l1 hg
            exact ⟨rfl, b, by simp only [I.run, e1, cond_false, e2], .of0 k2⟩
      · cases hr
  case ia es y z =>
    simp only [nrun] at hr
    cases hy : nev e y with
    | none => rw [hy] at hr; cases hr
    | some vy =>
      cases hz : nev e z with
      | none => rw [hy, hz] at hr; cases hr
      | some vz =>
        obtain ⟨uy, e1, k1⟩ := nev_sound he hy
        obtain ⟨uz, e2, k2⟩ := nev_sound he hz
        rw [hy, hz] at hr
        simp only [nap2] at hr
        unfold nia at hr
        split at hr
        · rename_i r i n c kd j
          obtain ⟨rfl, _⟩ := k2.v
          cases hg : h.get r with
          | none => rw [hg] at hr; cases hr
          | some row =>
            rw [hg] at hr
            simp only [niaR] at hr
            split at hr <;> cases hr
            rename_i hh
            obtain ⟨hw, hj, hj2⟩ := hh
            rcases k1.sl with ⟨_, _, rfl, _⟩ | ⟨b, w, p, rfl⟩
            · omega
            · have hw2 : w = es := by
                rcases sim.rows r row hg with ⟨p2, _⟩ | ⟨b2, p2, _⟩
                · rw [p] at p2; cases p2
                · rw [p] at p2; cases p2; exact hw
              subst hw2
              refine ⟨rfl, .pointer (some ⟨b, i * w + j.toNat * w, none⟩), by simp only [I.run, e1, e2]; rw [if_pos ⟨hj, hj2⟩], b, w, p, by rw [Nat.add_mul, Nat.add_zero]⟩
        · rename_i s l kd j
          obtain ⟨rfl, _⟩ := k2.v
          split at hr <;> cases hr
          rename_i hh
          obtain ⟨hw, hj, hj2⟩ := hh
          subst hw
          obtain ⟨cells, ha, hd⟩ := k1.fsl
          rcases ha with ⟨h0, _⟩ | ⟨b, off, c, row, rfl, q1, q2, q3, q4, q5⟩
          · rw [h0] at hj2; omega
          · refine ⟨rfl, .pointer (some ⟨b, off + j.toNat * s.width, none⟩), by simp only [I.run, e1, e2]; rw [if_pos ⟨hj, hj2⟩], by omega, b, off, cells, row, q1, q4, q5, hd, rfl⟩
        · cases hr
  case idx y z =>
    simp only [nrun] at hr
    cases hy : nev e y with
    | none => rw [hy] at hr; cases hr
    | some vy =>
      cases hz : nev e z with
      | none => rw [hy, hz] at hr; cases hr
      | some vz =>
        obtain ⟨uy, e1, k1⟩ := nev_sound he hy
        obtain ⟨uz, e2, k2⟩ := nev_sound he hz
        rw [hy, hz] at hr
        simp only [nap2] at hr
        unfold nidx at hr
        split at hr
        · obtain ⟨rfl, _⟩ := k1.v
          obtain ⟨rfl, _⟩ := k2.v
          split at hr
          · rename_i hj
            split at hr <;> cases hr
            rename_i hb
            exact ⟨rfl, _, by simp only [I.run, e1, e2, if_pos hj, hb], N3.mk_v rfl⟩
          · cases hr
        · cases hr
  case ext y k =>
    simp only [nrun] at hr
    cases hy : nev e y with
    | none => rw [hy] at hr; cases hr
    | some v =>
      obtain ⟨u, e1, k1⟩ := nev_sound he hy
      rw [hy] at hr
      simp only [nap1] at hr
      unfold nextV at hr
      split at hr
      · rename_i vs
        obtain ⟨a, rfl, l1⟩ := k1.tup
        cases hg : vs[k]? with
        | none => rw [hg] at hr; cases hr
        | some y =>
          rw [hg] at hr
          cases hr
          obtain ⟨b, e2, k2⟩ := L2.get l1 hg
          exact ⟨rfl, b, by simp only [I.run, e1, e2], .of1 k2⟩
      · cases hr
  case len y =>
    simp only [nrun] at hr
    cases hy : nev e y with
    | none => rw [hy] at hr; cases hr
    | some v =>
      obtain ⟨u, e1, k1⟩ := nev_sound he hy
      rw [hy] at hr
      simp only [nap1] at hr
      unfold nlen at hr
      split at hr <;> cases hr
      · obtain rfl := k1.nils
        exact ⟨rfl, .int .i64 0, by simp only [I.run, e1]; rfl, N3.mk_v rfl⟩
      · obtain ⟨_, _, _, rfl, _⟩ := k1.emp
        exact ⟨rfl, .int .i64 0, by simp only [I.run, e1]; rfl, N3.mk_v rfl⟩
      · rcases k1.sl with ⟨_, _, rfl, _, rfl⟩ | ⟨b, w, p, rfl⟩
        · exact ⟨rfl, _, by simp only [I.run, e1], N3.mk_v rfl⟩
        · exact ⟨rfl, _, by simp only [I.run, e1], N3.mk_v rfl⟩
      · obtain ⟨cells, ha, hd⟩ := k1.fsl
        rcases ha with ⟨h0, _, a, rfl, _⟩ | ⟨b, off, c, row, rfl, q1, q2, q3, q4, q5⟩
        · exact ⟨rfl, .int .i64 0, by simp only [I.run, e1]; rfl, by rw [h0]; exact N3.mk_v rfl⟩
        · exact ⟨rfl, _, by simp only [I.run, e1], N3.mk_v rfl⟩
  case lens y =>
    simp only [nrun] at hr
    cases hy : nev e y with
    | none => rw [hy] at hr; cases hr
    | some v =>
      obtain ⟨u, e1, k1⟩ := nev_sound he hy
      rw [hy] at hr
      simp only [nap1] at hr
      unfold nlens at hr
      split at hr <;> cases hr
      obtain ⟨rfl, _⟩ := k1.v
      exact ⟨rfl, _, by simp only [I.run, e1], N3.mk_v rfl⟩
  case mn xs =>
    simp only [nrun] at hr
    cases hy : nevs e xs with
    | none => rw [hy] at hr; cases hr
    | some vs =>
      rw [hy] at hr
      simp only [nmnL] at hr
      obtain ⟨us, e1, k1⟩ := nevs_sound he hy
      cases hv : nvals vs with
      | none => rw [hv] at hr; cases hr
      | some ws =>
        rw [hv] at hr
        obtain rfl := nvals_sound hv k1
        unfold nmnV at hr
        split at hr
        · rename_i k a r hh
          cases hh
          cases hm : minL k a r with
          | none => rw [hm] at hr; cases hr
          | some m =>
            rw [hm] at hr
            cases hr
            exact ⟨rfl, m, by simp only [I.run, e1, hm], N3.mk_v (flat_minL hm)⟩
        · cases hr
  case mx xs =>
    simp only [nrun] at hr
    cases hy : nevs e xs with
    | none => rw [hy] at hr; cases hr
    | some vs =>
      rw [hy] at hr
      simp only [nmxL] at hr
      obtain ⟨us, e1, k1⟩ := nevs_sound he hy
      cases hv : nvals vs with
      | none => rw [hv] at hr; cases hr
      | some ws =>
        rw [hv] at hr
        obtain rfl := nvals_sound hv k1
        unfold nmxV at hr
        split at hr
        · rename_i k a r hh
          cases hh
          cases hm : maxL k a r with
          | none => rw [hm] at hr; cases hr
          | some m =>
            rw [hm] at hr
            cases hr
            exact ⟨rfl, m, by simp only [I.run, e1, hm], N3.mk_v (flat_maxL hm)⟩
        · cases hr
  case noesc f y =>
    simp only [nrun] at hr
    cases hy : nev e y with
    | none => rw [hy] at hr; cases hr
    | some v =>
      obtain ⟨u, e1, k1⟩ := nev_sound he hy
      rw [hy] at hr
      simp only [nap1] at hr
      unfold nnoesc at hr
      split at hr <;> cases hr
      · obtain ⟨rfl, _⟩ := k1.v
        exact ⟨rfl, _, by simp only [I.run, e1], N3.mk_v rfl⟩
      · obtain ⟨b, w, _, rfl⟩ := k1.ptr
        exact ⟨rfl, _, by simp only [I.run, e1], k1⟩
  case usd y =>
    simp only [nrun] at hr
    cases hy : nev e y with
    | none => rw [hy] at hr; cases hr
    | some v =>
      obtain ⟨u, e1, k1⟩ := nev_sound he hy
      rw [hy] at hr
      simp only [nap1] at hr
      unfold nusd at hr
      split at hr
      · cases hr
        obtain rfl := k1.nils
        exact ⟨rfl, _, by simp only [I.run, e1], N3.mk_v rfl⟩
      · split at hr <;> cases hr
        rename_i hc0
        rcases k1.sl with ⟨_, _, _, rfl, _⟩ | ⟨b, w, p, rfl⟩
        · omega
        · refine ⟨rfl, _, ?_, b, w, p, rfl⟩
          simp only [I.run, e1, cond_eq_ite]
          rw [if_pos (show Nat.blt 0 _ = true from Nat.ble_eq_true_of_le hc0)]
          rfl
      · cases hr
end
end Go.Proofs.Ytnjmdkecpadehaa.M
