/- The framework M, fifteenth text: a region that draws its order: the step, the end, the law. Conditions: the looks at the region. -/
import Derived.Test.YtnjmdkecpadehaaMDraw2
set_option linter.all false
set_option linter.unusedSimpArgs false
namespace Go.Proofs.Ytnjmdkecpadehaa.M

/-- A world with a block more that no row of M's is. -/
theorem Rel.junk {ψ : Phi} {H : Heap} {w w' : World} {o : Obj} {b : Nat} {p : PB} (h : Rel ψ H w) (hw : w'.heap = w.heap.push o) (hb : ψ b = none) : Rel (ext ψ b p) H w' := by
  have hle := ext_le p hb
  have hold : ∀ k, k < w.heap.size → w'.heap[k]? = w.heap[k]? := fun k hk => by rw [hw, Array.getElem?_push, if_neg (Nat.ne_of_lt hk)]
  have ne : ∀ c row, H.get c = some row → c ≠ b := fun c row hc e => by
    subst e
    obtain ⟨q, hq, _⟩ := h.row c row hc
    rw [hb] at hq
    cases hq
  refine ⟨fun c row hc => ?_, fun c row q c' row' q' h1 h2 h3 h4 => ?_, h.top⟩
  · obtain ⟨q, hq, rr⟩ := h.row c row hc
    refine ⟨q, by rw [ext_ne _ _ (ne c row hc)]; exact hq, rr.len, rr.es, rr.le, by rw [hw]; simp; have := rr.lt; omega, fun i v hv => ?_, fun ho => by rw [hold _ rr.lt]; exact rr.own ho⟩
    obtain ⟨v', e1, e2⟩ := rr.cell i v hv
    exact ⟨v', by simpa [World.cell?, hold _ rr.lt] using e1, e2.mono hle⟩
  · rw [ext_ne _ _ (ne c row h1)] at h2
    rw [ext_ne _ _ (ne c' row' h3)] at h4
    exact h.apart c row q c' row' q' h1 h2 h3 h4
theorem ImgB.junk {ψ : Phi} {H : Heap} {w : World} {b k : Nat} {p : PB} (h : Rel ψ H w) (hb : ψ b = none) (hi : ImgB (ext ψ b p) H k) : ImgB ψ H k := by
  obtain ⟨c, row, q, h1, h2, h3⟩ := hi
  have : c ≠ b := fun e => by
    subst e
    obtain ⟨q', hq, _⟩ := h.row c row h1
    rw [hb] at hq
    cases hq
  rw [ext_ne _ _ this] at h2
  exact ⟨c, row, q, h1, h2, h3⟩
theorem OwnB.junk {ψ : Phi} {H : Heap} {w : World} {b k : Nat} {p : PB} (h : Rel ψ H w) (hb : ψ b = none) (hi : OwnB (ext ψ b p) H k) : OwnB ψ H k := by
  obtain ⟨c, row, q, h1, h0, h2, h3⟩ := hi
  have : c ≠ b := fun e => by
    subst e
    obtain ⟨q', hq, _⟩ := h.row c row h1
    rw [hb] at hq
    cases hq
  rw [ext_ne _ _ this] at h2
  exact ⟨c, row, q, h1, h0, h2, h3⟩
theorem alloc_run {P : Program} {o : Oper} {es : Nat} {z : List Value} (hok : okOp P o.op (.alloc es z) = true) (a : Act) (w : World) :
    ∃ arr, (execOp a.eval o).run P w = .ok (.value (.pointer (some ⟨w.heap.size, 0, none⟩))) { w with heap := w.heap.push (.cells arr es) } ∧ arr.toList = z ∧ ∀ φ, LR (VR0 φ) z z := by
  obtain ⟨dst, op, ty, pos, aft, gd⟩ := o
  simp only [okOp] at hok
  split at hok <;> try cases hok
  rename_i t t2
  obtain ⟨hte, hok2⟩ := ok_and hok
  rw [beq_eq, decide_eq_true_eq] at hte
  subst hte
  obtain ⟨zv, hz, hzc, hzr⟩ := run_zeroValue' hok2 w
  exact ⟨zv.cells, by simp [execOp, Instr.alloc, hz, newVar, newRow], hzc, hzr⟩

section
variable {P : Program} {call : CallFn} {nt : Nat} {ops : Array Oper} {ds : List D} {S : Nat → DS} {B : Nat → Nat → Prop}

theorem Stage.alloc (R : Reg P call nt ops ds S B) {φ0 : Phi} {w0 : World} {df : List Deferred} {top : Nat} {L : Nat → Prop} {a : Act} {w : World} {c : Nat} {ψ : Phi} (h : Stage P call nt ds S φ0 w0 df top L a w c ψ)
    {i : Nat} {d : D} {es : Nat} {z : List Value} (hi : Ready ds B L i d) (hc : d.o.i = .alloc es z) (hw : d.o.want (S i).e = some true) (hci : c ≤ i) (hil : i < ds.length) (htop : sz S (i + 1) ≤ top)
    (he : (S (i + 1)).e = put (S i).e d.o.d (.pointer (some ⟨sz S i, 0, none⟩))) (hd : ∀ k, d.o.d = some k → k < nt)
    {arr : Array Value} (harr : arr.toList = z) (hz : ∀ φ, LR (VR0 φ) z z) :
    Stage P call nt ds S φ0 w0 df top (fun j => j = i ∨ L j) (a.put d.o.d (.pointer (some ⟨w.heap.size, 0, none⟩))) { w with heap := w.heap.push (.cells arr es) } c (ext ψ (sz S i) ⟨w.heap.size, 0, z.length, es, z.length⟩) := by
  have hasz : arr.size = z.length := by rw [← harr]; simp
  have hci' : (S c).H.size ≤ sz S i := by
    have := (R.szMono (i - c) c (by omega)).2
    rw [show c + (i - c) = i by omega] at this
    unfold sz
    omega
  have hst1 := (R.szStep hi.at_).2.2 es z hc hw
  have lt1 : ∀ (j : Nat) dj es' z', ds[j]? = some dj → dj.o.i = .alloc es' z' → dj.o.want (S j).e = some true → j ≠ i → sz S j ≠ sz S i := by
    intro j dj es' z' hj h1 h2 hne e
    have hjl := (List.getElem?_eq_some_iff.1 hj).1
    have g := (R.szStep hj).2.2 es' z' h1 h2
    rcases Nat.lt_trichotomy j i with k | k | k
    · have := (R.szMono (i - (j + 1)) (j + 1) (by omega)).1
      rw [show j + 1 + (i - (j + 1)) = i by omega] at this
      omega
    · exact hne k
    · have := (R.szMono (j - (i + 1)) (i + 1) (by omega)).1
      rw [show i + 1 + (j - (i + 1)) = j by omega] at this
      omega
  have hnone : ψ (sz S i) = none := by
    cases e : ψ (sz S i) with
    | none => rfl
    | some p =>
      exfalso
      obtain ⟨j, dj, es', z', e1, e2, e3, e4, e5, e6⟩ := h.fresh (sz S i) hci' (by omega) (by rw [e]; simp)
      exact lt1 j dj es' z' e1 e3 e4 (fun e9 => hi.not (by rw [← e9]; exact e5)) e6.symm
  have hle := ext_le ⟨w.heap.size, 0, z.length, es, z.length⟩ hnone
  have nact : ∀ (j : Nat) dj, ds[j]? = some dj → dj.o.i.cls = .act → j ≠ i := fun j dj hj hwj e => by
    subst e
    rw [hi.at_] at hj
    cases hj
    rw [hc] at hwj
    cases hwj
  have hold : ∀ k, k < w.heap.size → (w.heap.push (Obj.cells arr es))[k]? = w.heap[k]? := fun k hk => by rw [Array.getElem?_push, if_neg (Nat.ne_of_lt hk)]
  refine ⟨h.cle, fun j dj hj h1 h2 => .inr (h.c1 j dj hj h1 h2), fun j dj hj h1 h2 h3 hL => h.c2 j dj hj h1 h2 h3 (hL.resolve_left (nact j dj hj h2)), h.c3.imp id (fun ⟨j, dj, e1, e2, e3, e4, e5⟩ => ⟨j, dj, e1, e2, e3, e4, .inr e5⟩),
    h.rel.junk rfl hnone, fun j dj es' z' hj h1 h2 h3 hL => ?_, fun j j' d1 d2 es1 z1 es2 z2 p p' a1 a2 a3 a4 a5 b1 b2 b3 b4 b5 hne q1 q2 => ?_, fun b h1 h2 h3 => ?_, h.le.trans hle, fun b hb => ?_, fun b hb => ?_, h.os, h.tape, h.output, by simp; have := h.wsz; omega,
    fun k h1 h2 => ?_, fun k h1 h2 hk => h.img k h1 h2 (ImgB.junk h.rel hnone hk), h.envPut R hi he ⟨rfl, _, ext_at _ _ _, by simp⟩ hle hd, by rw [size_put]; exact h.nts, by rw [defers_put]; exact h.dfs⟩
  · rcases hL with e | hL
    · subst e
      rw [hi.at_] at hj
      cases hj
      rw [hc] at h2
      cases h2
      refine ⟨_, ext_at _ _ _, rfl, rfl, rfl, rfl, ⟨arr, by simp, harr⟩, hz, fun hk => ?_, h.wsz⟩
      obtain ⟨b, row, q, g1, g2, g3⟩ := ImgB.junk h.rel hnone hk
      obtain ⟨q', g4, rr⟩ := h.rel.row b row g1
      rw [g2] at g4
      cases g4
      have := rr.lt
      simp at g3
      omega
    · have hne : j ≠ i := fun e => hi.not (by rw [← e]; exact hL)
      obtain ⟨p, hp⟩ := h.pnd j dj es' z' hj h1 h2 h3 hL
      obtain ⟨arr', g1, g2⟩ := hp.heap
      exact ⟨p, by rw [ext_ne _ _ (lt1 j dj es' z' hj h2 h3 hne)]; exact hp.at_, hp.o, hp.n, hp.es_, hp.len, ⟨arr', (hold _ (Array.getElem?_eq_some_iff.1 g1).1).trans g1, g2⟩, hp.plain, fun hk => hp.img (ImgB.junk h.rel hnone hk), hp.new⟩
  · have pr : ∀ (j : Nat) d1 es1 z1 p, ds[j]? = some d1 → c ≤ j → d1.o.i = .alloc es1 z1 → d1.o.want (S j).e = some true → L j → ψ (sz S j) = some p → p.r < w.heap.size := by
      intro j d1 es1 z1 p k1 k2 k3 k4 k5 k6
      obtain ⟨p', hp'⟩ := h.pnd j d1 es1 z1 k1 k2 k3 k4 k5
      rw [hp'.at_] at k6
      cases k6
      obtain ⟨arr', g1, g2⟩ := hp'.heap
      exact (Array.getElem?_eq_some_iff.1 g1).1
    by_cases e1 : j = i
    · subst e1
      rw [ext_at] at q1
      cases q1
      rw [ext_ne _ _ (lt1 j' d2 es2 z2 b1 b3 b4 (fun e => hne e.symm))] at q2
      have := pr j' d2 es2 z2 p' b1 b2 b3 b4 (b5.resolve_left (fun e => hne e.symm)) q2
      simp
      omega
    · rw [ext_ne _ _ (lt1 j d1 es1 z1 a1 a3 a4 e1)] at q1
      by_cases e2 : j' = i
      · subst e2
        rw [ext_at] at q2
        cases q2
        have := pr j d1 es1 z1 p a1 a2 a3 a4 (a5.resolve_left e1) q1
        simp
        omega
      · rw [ext_ne _ _ (lt1 j' d2 es2 z2 b1 b3 b4 e2)] at q2
        exact h.pnd2 j j' d1 d2 es1 z1 es2 z2 p p' a1 a2 a3 a4 (a5.resolve_left e1) b1 b2 b3 b4 (b5.resolve_left e2) hne q1 q2
  · by_cases e : b = sz S i
    · exact ⟨i, d, es, z, hi.at_, hci, hc, hw, .inl rfl, e⟩
    · rw [ext_ne _ _ e] at h3
      obtain ⟨j, dj, es', z', e1, e2, e3, e4, e5, e6⟩ := h.fresh b h1 h2 h3
      exact ⟨j, dj, es', z', e1, e2, e3, e4, .inr e5, e6⟩
  · have g0 := (R.szMono c 0 (by have := h.cle; omega)).2
    rw [Nat.zero_add] at g0
    rw [ext_ne _ _ (by omega)]
    exact h.slow b hb
  · rw [ext_ne _ _ (by omega)]
    exact h.shigh b hb
  · obtain ⟨g1, g2⟩ := h.keep k h1 h2
    exact ⟨(hold k (Nat.lt_of_lt_of_le h1 h.wsz)).trans g1, fun hk => g2 (OwnB.junk h.rel hnone hk)⟩

/-- The same run at the heap that stands now. -/
theorem Stage.now (R : Reg P call nt ops ds S B) {φ0 : Phi} {w0 : World} {df : List Deferred} {top : Nat} {L : Nat → Prop} {a : Act} {w : World} {c : Nat} {ψ : Phi} (h : Stage P call nt ds S φ0 w0 df top L a w c ψ)
    {i : Nat} {d : D} (hi : Ready ds B L i d) (hw : d.o.want (S i).e = some true) (hc : d.o.i.cls = .load) {p : Nat × Nat × Nat} {ce : List Value × Nat} (hp : d.o.i.peek (S i).e = some p) (hpe : peekAt (S i).H p = some ce) (hk : chkLd (S i).hbs p ce d.chk = true) :
    peekAt (S c).H p = some ce := by
  have hil : i < ds.length := (List.getElem?_eq_some_iff.1 hi.at_).1
  rcases Nat.lt_or_ge i c with hic | hic
  · -- more has acted than stands ahead in the text
    rcases h.c3 with h0 | ⟨j, dj, hcj, hj, hcj2, hwj, hLj⟩
    · omega
    · subst hcj
      have hne : i ≠ j := fun e => by
        subst e
        rw [hi.at_] at hj
        cases hj
        rw [hc] at hcj2
        cases hcj2
      have hij : i < j := by omega
      rcases R.s3 i j d dj hi.at_ hj hij hc hcj2 with hb | hm
      · exact (hi.aft j (List.getElem?_eq_some_iff.1 hj).1 hLj hb).elim
      · have hl := R.lds j (by have := h.cle; omega) i d p ce hi.at_ hij hc hw hp hpe
        cases R.way hj with
        | skip h1 h2 => rw [hwj] at h1; cases h1
        | calm v h1 h2 => rw [hcj2] at h2; cases h2
        | far v h1 h2 => rw [hcj2] at h2; cases h2
        | load v h1 h2 => rw [hcj2] at h2; cases h2
        | alloc es z h1 h2 => rw [h2] at hcj2; cases hcj2
        | act v h1 h2 H' h3 h4 h5 =>
          rw [h5]
          exact chkAct_mem h4 i hm p ce hl
  · -- the next that acts, if it stands ahead in the text
    by_cases hex : ∃ j dj, ds[j]? = some dj ∧ c ≤ j ∧ j < i ∧ dj.o.i.cls = .act ∧ dj.o.want (S j).e = some true
    · have hmin : ∃ j dj, (ds[j]? = some dj ∧ c ≤ j ∧ j < i ∧ dj.o.i.cls = .act ∧ dj.o.want (S j).e = some true) ∧ ∀ j' dj', j' < j → ds[j']? = some dj' → c ≤ j' → ¬ (dj'.o.i.cls = .act ∧ dj'.o.want (S j').e = some true) := by
        obtain ⟨j, dj, hj⟩ := hex
        induction j using Nat.strongRecOn generalizing dj with
        | _ j ih =>
          by_cases hs : ∃ j' dj', j' < j ∧ ds[j']? = some dj' ∧ c ≤ j' ∧ dj'.o.i.cls = .act ∧ dj'.o.want (S j').e = some true
          · obtain ⟨j', dj', k1, k2, k3, k4, k5⟩ := hs
            exact ih j' k1 dj' ⟨k2, k3, by omega, k4, k5⟩
          · exact ⟨j, dj, hj, fun j' dj' k1 k2 k3 k4 => hs ⟨j', dj', k1, k2, k3, k4.1, k4.2⟩⟩
      obtain ⟨j, dj, ⟨hj, h1, h2, h3, h4⟩, hfirst⟩ := hmin
      have hH : (S j).H = (S c).H := by
        have := R.keepH (j - c) c (by omega) (fun k dk g1 g2 g3 => hfirst k dk (by omega) g1 g2)
        rwa [show c + (j - c) = j by omega] at this
      rcases R.s3' j i dj d hj hi.at_ h2 h3 hc with hb | hm
      · exact (h.c2 j dj hj h1 h3 h4 (hi.bef j h2 hb)).elim
      · have hf := R.hbs i (by omega) j dj hj h2 h3 h4
        have := chkLd_mem hk j hm _ hf
        rwa [hH] at this
    · have hH : (S i).H = (S c).H := by
        have := R.keepH (i - c) c (by omega) (fun k dk g1 g2 g3 g4 => hex ⟨k, dk, g1, g2, by omega, g4.1, g4.2⟩)
        rwa [show c + (i - c) = i by omega] at this
      rwa [hH] at hpe

/-- One operation in whatever order. -/
theorem Stage.step (R : Reg P call nt ops ds S B) {φ0 : Phi} {w0 : World} {df : List Deferred} {top : Nat} {L : Nat → Prop} {a : Act} {w : World} {c : Nat} {ψ : Phi} (h : Stage P call nt ds S φ0 w0 df top L a w c ψ)
    (htop : sz S ds.length ≤ top) {i : Nat} {d : D} (hi : Ready ds B L i d) {Q : Exit → Act → World → Prop} {K : Act → World → Prop}
    (hK : ∀ a' w' c' ψ', Stage P call nt ds S φ0 w0 df top (fun j => j = i ∨ L j) a' w' c' ψ' → K a' w') : wpOp P ops Q i K a w := by
  have hil : i < ds.length := (List.getElem?_eq_some_iff.1 hi.at_).1
  have hio : i < ops.size := by rw [← R.len]; exact hil
  have ho := Array.getElem?_eq_getElem hio
  have hok := R.op i d _ hi.at_ ho
  obtain ⟨k1, k3⟩ := ok_and hok
  obtain ⟨k1, k4⟩ := ok_and k1
  obtain ⟨hdd, hdl⟩ := okDst_spec k4
  have hdl' : ∀ k, d.o.d = some k → k < nt := fun k hk => hdl k (by rw [hdd]; exact hk)
  have hER := h.envR R hi
  have hsame := Same.keep (S i).e d.o.names
  have hw2 : d.o.want (keepOf (S i).e d.o.names) = d.o.want (S i).e := want_same (fun t ht => hsame t (by simp [O.names, ht]))
  have hrun2 : ∀ H, d.o.i.run call (keepOf (S i).e d.o.names) H = d.o.i.run call (S i).e H := fun H => I.run_same (fun t ht => hsame t (by simp [O.names, ht])) H
  have szt : ∀ k, k ≤ ds.length → sz S k ≤ top := fun k hk => by
    have := (R.szMono (ds.length - k) k (by omega)).1
    rw [show k + (ds.length - k) = ds.length by omega] at this
    omega
  unfold wpOp
  rw [ho]
  simp only
  have cur : d.o.want (S i).e = some true → (d.o.i.cls = .calm ∨ d.o.i.cls = .load) → (∃ v, (S (i + 1)).e = put (S i).e d.o.d v ∧ d.o.i.run call (S i).e (S c).H = some (v, (S c).H)) →
      (if Region.wanted ops[i] (yielded ops a.tmps) = true then ops[i].wp P a w K Q ∨ ops[i].asks P a w ∧ LetsOut Q else K (a.put ops[i].dst undef) w) := by
    rintro hw hc ⟨v, he, hr⟩
    rw [want_spec hER k3 (b := true) (by rw [hw2]; exact hw), if_pos rfl]
    left
    refine oneS R.cs k1 hER h.rel (fun b h1 h2 => absurd h2 (Nat.not_lt.2 h1)) (by rw [hrun2]; exact hr) ?_
    intro v' w' φ' g1 g2 g3
    rw [hdd]
    exact hK _ _ _ _ (h.calm R hi hc he hdl' g1 g2 g3)
  cases R.way hi.at_ with
  | skip hw hs =>
    rw [want_spec hER k3 (b := false) (by rw [hw2]; exact hw), if_neg (by simp)]
    rw [hdd]
    exact hK _ _ _ _ (h.skip R hi hw hs hdl')
  | calm v hw hc H1 hr hs => exact cur hw (.inl hc) ⟨v, by rw [hs], (I.run_calm hc hr).2 _⟩
  | far v hw hc H1 hr hp hs => exact cur hw (.inr hc) ⟨v, by rw [hs], (I.run_peek hc hr).2.1 hp⟩
  | load v hw hc H1 hr p ce hp hpe hk hs => exact cur hw (.inr hc) ⟨v, by rw [hs], (I.run_peek hc hr).2.2 p ce hp hpe (h.now R hi hw hc hp hpe hk)⟩
  | alloc es z hw hc hs =>
    rw [want_spec hER k3 (b := true) (by rw [hw2]; exact hw), if_pos rfl]
    left
    have hci : c ≤ i := by
      rcases h.c3 with h0 | ⟨j, dj, hcj, hj, hcj2, hwj, hLj⟩
      · omega
      · rcases Nat.lt_or_ge i c with g | g
        · exfalso
          have hne : i ≠ j := fun e => by
            subst e
            rw [hi.at_] at hj
            cases hj
            rw [hc] at hcj2
            cases hcj2
          exact hi.aft j (List.getElem?_eq_some_iff.1 hj).1 hLj (R.s2 i j d dj hi.at_ hj (by omega) (by rw [hc]; rfl) hcj2)
        · exact g
    rw [hc] at k1
    obtain ⟨arr, e1, e2, e3⟩ := alloc_run k1 a w
    unfold Oper.wp
    rw [e1, Oper.upon_value, hdd]
    exact hK _ _ _ _ (h.alloc R hi hc hw hci hil (szt (i + 1) (by omega)) (by rw [hs]; rfl) hdl' e2 e3)
  | act v hw hc H' hr hk hs =>
    rw [want_spec hER k3 (b := true) (by rw [hw2]; exact hw), if_pos rfl]
    left
    have hci : c ≤ i := by
      rcases Nat.lt_or_ge i c with g | g
      · exact (hi.not (h.c1 i d hi.at_ g hc)).elim
      · exact g
    have hno : ∀ (j : Nat) dj, ds[j]? = some dj → c ≤ j → j < i → ¬ (dj.o.i.cls = .act ∧ dj.o.want (S j).e = some true) := fun j dj hj h1 h2 ⟨h3, h4⟩ =>
      h.c2 j dj hj h1 h3 h4 (hi.bef j h2 (R.s1 j i dj d hj hi.at_ h2 h3 hc))
    have hall : ∀ (j : Nat) dj es z, ds[j]? = some dj → c ≤ j → j < i → dj.o.i = .alloc es z → dj.o.want (S j).e = some true → L j := fun j dj es z hj h1 h2 h3 h4 =>
      hi.bef j h2 (R.s2 j i dj d hj hi.at_ h2 (by rw [h3]; rfl) hc)
    have ab := h.absorb R i hci (by omega) hno hall
    have hH' : (S (i + 1)).H = H' := by rw [hs]
    have hpe : (S (i + 1)).pend = [] := by rw [hs]
    have htop1 : (S (i + 1)).H.size ≤ top := by have := szt (i + 1) (by omega); unfold sz at this; omega
    have hin : (pushAll (S i).H (S i).pend).size = sz S i := by rw [pushAll_size]; rfl
    have hfr : Fresh ψ (pushAll (S i).H (S i).pend) H' := by
      intro b h1 h2
      cases e : ψ b with
      | none => rfl
      | some p =>
        exfalso
        have hcs : (S c).H.size ≤ sz S i := by
          have := (R.szMono (i - c) c (by omega)).2
          rw [show c + (i - c) = i by omega] at this
          unfold sz
          omega
        rw [← hH'] at h2
        obtain ⟨j, dj, es, z, e1, e2, e3, e4, e5, e6⟩ := h.fresh b (by omega) (by omega) (by rw [e]; simp)
        have hjl := (List.getElem?_eq_some_iff.1 e1).1
        have hne : j ≠ i := fun e9 => hi.not (by rw [← e9]; exact e5)
        have g := (R.szStep e1).2.2 es z e3 e4
        have hsz1 : sz S (i + 1) = (S (i + 1)).H.size := by simp [sz, hpe]
        rcases Nat.lt_or_ge j i with k | k
        · have := (R.szMono (i - (j + 1)) (j + 1) (by omega)).1
          rw [show j + 1 + (i - (j + 1)) = i by omega] at this
          omega
        · have := (R.szMono (j - (i + 1)) (i + 1) (by omega)).1
          rw [show i + 1 + (j - (i + 1)) = j by omega] at this
          omega
    refine oneS R.cs k1 hER ab.1 hfr (by rw [hrun2]; exact hr) ?_
    intro v' w' φ' g1 g2 g3
    rw [hdd]
    exact hK _ _ _ _ (h.act R hi hc hw hci hil htop1 ab hall (by rw [hs]) hpe hdl' g1 (by rw [hH']; exact g2) (by rw [hH']; exact g3))

/-- All has been carried out. -/
theorem Stage.done (R : Reg P call nt ops ds S B) {φ0 : Phi} {w0 : World} {df : List Deferred} {L : Nat → Prop} {a : Act} {w : World} {c : Nat} {ψ : Phi}
    (h : Stage P call nt ds S φ0 w0 df (pushAll (S ds.length).H (S ds.length).pend).size L a w c ψ) (hL : ∀ i, i < ds.length → L i) :
    EnvR ψ (S ds.length).e a.tmps ∧ Rel ψ (pushAll (S ds.length).H (S ds.length).pend) w ∧ Step φ0 (S 0).H w0 ψ (pushAll (S ds.length).H (S ds.length).pend) w := by
  have ab := h.absorb R ds.length h.cle (Nat.le_refl _) (fun j d hj h1 h2 ⟨h3, h4⟩ => h.c2 j d hj h1 h3 h4 (hL j h2)) (fun j d es z hj h1 h2 h3 h4 => hL j h2)
  refine ⟨fun t v hv => ?_, ab.1, ⟨h.le, fun b hb => hb.elim (h.slow b) (h.shigh b), ?_, h.os, h.tape, h.output, h.wsz, fun k h1 h2 => ?_, fun k h1 h2 => ?_⟩⟩
  · obtain ⟨m, h1, h2, h3⟩ := lastW ds t ds.length (Nat.le_refl _)
    have e := R.keepT t (ds.length - m) m (by omega) (fun j d hd k1 k2 => h2 j d hd k1 (by omega))
    rw [show m + (ds.length - m) = ds.length by omega] at e
    refine h.env t m v h1 (fun j d hj _ hw => ?_) (h3.imp id (fun ⟨k, d, e1, e2, e3⟩ => ⟨k, d, e1, e2, hL k (List.getElem?_eq_some_iff.1 e2).1, e3⟩)) (by rw [← e]; exact hv)
    rcases Nat.lt_or_ge j m with g | g
    · exact g
    · exact absurd hw (h2 j d hj g (List.getElem?_eq_some_iff.1 hj).1)
  · have := (R.szMono ds.length 0 (by omega)).2
    rw [Nat.zero_add] at this
    rw [pushAll_size]
    omega
  · obtain ⟨g1, g2⟩ := h.keep k h1 h2
    refine ⟨g1, ab.2.2 k g2 fun j d es z p a1 a2 a3 a4 a5 a6 => ?_⟩
    obtain ⟨p', hp'⟩ := h.pnd j d es z a1 a2 a4 a5 (hL j a3)
    rw [hp'.at_] at a6
    cases a6
    have := hp'.new
    omega
  · refine ab.2.1 k (h.img k h1 h2) fun j d es z p a1 a2 a3 a4 a5 a6 => ?_
    obtain ⟨p', hp'⟩ := h.pnd j d es z a1 a2 a4 a5 (hL j a3)
    rw [hp'.at_] at a6
    cases a6
    have := hp'.new
    omega
end

end Go.Proofs.Ytnjmdkecpadehaa.M
