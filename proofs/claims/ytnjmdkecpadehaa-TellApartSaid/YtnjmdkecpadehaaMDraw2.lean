/- The framework M, fourteenth text: a region that draws its order: whatever the order, it comes to what M says. Conditions: the looks at the region. -/
import Derived.Test.YtnjmdkecpadehaaMDraw
set_option linter.all false
set_option linter.unusedSimpArgs false
namespace Go.Proofs.Ytnjmdkecpadehaa.M

/-- A row that is allocated already, and stands in M's text later. -/
structure Pend (ψ : Phi) (H : Heap) (w w0 : World) (b es : Nat) (z : List Value) (p : PB) : Prop where
  at_ : ψ b = some p
  o : p.o = 0
  n : p.n = z.length
  es_ : p.es = es
  len : p.len = z.length
  heap : ∃ arr, w.heap[p.r]? = some (.cells arr es (0, 0)) ∧ arr.toList = z
  plain : ∀ φ, LR (VR0 φ) z z
  img : ¬ ImgB ψ H p.r
  new : w0.heap.size ≤ p.r
theorem OwnB.img {ψ : Phi} {H : Heap} {k : Nat} (h : OwnB ψ H k) : ImgB ψ H k := by
  obtain ⟨b, row, p, h1, h2, h3, h4⟩ := h
  exact ⟨b, row, p, h1, h3, h4⟩
theorem Rel.absorb {ψ : Phi} {H : Heap} {w w0 : World} {es : Nat} {z : List Value} {p : PB} (hr : Rel ψ H w) (h : Pend ψ H w w0 H.size es z p) :
    Rel ψ (H.push ⟨z, es, true, some es⟩) w ∧ (∀ k, ¬ ImgB ψ H k → k ≠ p.r → ¬ ImgB ψ (H.push ⟨z, es, true, some es⟩) k) ∧ (∀ k, ¬ OwnB ψ H k → k ≠ p.r → ¬ OwnB ψ (H.push ⟨z, es, true, some es⟩) k) := by
  obtain ⟨arr, hg, harr⟩ := h.heap
  have hasz : arr.size = z.length := by rw [← harr]; simp
  refine ⟨⟨fun b row hb => ?_, fun b row q b' row' q' h1 h2 h3 h4 ho hne => ?_, fun b row hb => ?_⟩, fun k hk hne => ?_, fun k hk hne => ?_⟩
  · rw [Heap.get_push] at hb
    split at hb
    · rename_i e
      subst e
      cases hb
      refine ⟨p, h.at_, h.len, h.es_, by rw [h.len, h.n]; exact Nat.le_refl _, (Array.getElem?_eq_some_iff.1 hg).1, fun i v hv => ?_, fun _ => ⟨arr, es, hg, by rw [h.o, h.n, hasz]; omega, fun t ht => by cases ht; exact ⟨rfl, h.o⟩⟩⟩
      obtain ⟨v', e1, e2⟩ := (h.plain ψ).get i v hv
      refine ⟨v', ?_, e2⟩
      simp only [World.cell?, hg, h.o, Nat.zero_add]
      rw [← harr] at e1
      simpa using e1
    · exact hr.row b row hb
  · rw [Heap.get_push] at h1 h3
    split at h1
    · rename_i e1
      subst e1
      rw [h.at_] at h2
      cases h2
      rw [if_neg (fun e => hne e.symm)] at h3
      exact fun e => h.img ⟨b', row', q', h3, h4, e.symm⟩
    · split at h3
      · rename_i e1 e2
        subst e2
        rw [h.at_] at h4
        cases h4
        exact fun e => h.img ⟨b, row, q, h1, h2, e⟩
      · exact hr.apart b row q b' row' q' h1 h2 h3 h4 ho hne
  · rw [Heap.get_push] at hb
    rw [Heap.size_push]
    split at hb
    · omega
    · have := hr.top b row hb; omega
  · rintro ⟨b, row, q, h1, h3, h4⟩
    rw [Heap.get_push] at h1
    split at h1
    · rename_i e
      subst e
      rw [h.at_] at h3
      cases h3
      exact hne h4.symm
    · exact hk ⟨b, row, q, h1, h3, h4⟩
  · rintro ⟨b, row, q, h1, h2, h3, h4⟩
    rw [Heap.get_push] at h1
    split at h1
    · rename_i e
      subst e
      rw [h.at_] at h3
      cases h3
      exact hne h4.symm
    · exact hk ⟨b, row, q, h1, h2, h3, h4⟩

section
variable {P : Program} {call : CallFn} {nt : Nat} {ops : Array Oper} {ds : List D} {S : Nat → DS} {B : Nat → Nat → Prop}

/-- Where the machine stands in a region, and where M. L: what has been carried out; c: behind the last that acted; ψ: where M's rows lie. -/
structure Stage (P : Program) (call : CallFn) (nt : Nat) (ds : List D) (S : Nat → DS) (φ0 : Phi) (w0 : World) (df : List Deferred) (top : Nat) (L : Nat → Prop) (a : Act) (w : World) (c : Nat) (ψ : Phi) : Prop where
  cle : c ≤ ds.length
  c1 : ∀ (j : Nat) d, ds[j]? = some d → j < c → d.o.i.cls = .act → L j
  c2 : ∀ (j : Nat) d, ds[j]? = some d → c ≤ j → d.o.i.cls = .act → d.o.want (S j).e = some true → ¬ L j
  c3 : c = 0 ∨ ∃ (j : Nat) (d : D), c = j + 1 ∧ ds[j]? = some d ∧ d.o.i.cls = .act ∧ d.o.want (S j).e = some true ∧ L j
  rel : Rel ψ (S c).H w
  pnd : ∀ (j : Nat) d es z, ds[j]? = some d → c ≤ j → d.o.i = .alloc es z → d.o.want (S j).e = some true → L j → ∃ p, Pend ψ (S c).H w w0 (sz S j) es z p
  pnd2 : ∀ (j j' : Nat) d d' es z es' z' p p', ds[j]? = some d → c ≤ j → d.o.i = .alloc es z → d.o.want (S j).e = some true → L j → ds[j']? = some d' → c ≤ j' → d'.o.i = .alloc es' z' → d'.o.want (S j').e = some true → L j' →
    j ≠ j' → ψ (sz S j) = some p → ψ (sz S j') = some p' → p.r ≠ p'.r
  fresh : ∀ b, (S c).H.size ≤ b → b < top → ψ b ≠ none → ∃ (j : Nat) (d : D) (es : Nat) (z : List Value), ds[j]? = some d ∧ c ≤ j ∧ d.o.i = .alloc es z ∧ d.o.want (S j).e = some true ∧ L j ∧ b = sz S j
  le : Le φ0 ψ
  slow : ∀ b, b < (S 0).H.size → ψ b = φ0 b
  shigh : ∀ b, top ≤ b → ψ b = φ0 b
  os : w.os = w0.os
  tape : w.tape = w0.tape
  output : w.output = w0.output
  wsz : w0.heap.size ≤ w.heap.size
  keep : ∀ k, k < w0.heap.size → ¬ OwnB φ0 (S 0).H k → w.heap[k]? = w0.heap[k]? ∧ ¬ OwnB ψ (S c).H k
  img : ∀ k, k < w0.heap.size → ¬ ImgB φ0 (S 0).H k → ¬ ImgB ψ (S c).H k
  env : ∀ (t m : Nat) v, m ≤ ds.length → (∀ (j : Nat) d, ds[j]? = some d → L j → d.o.d = some t → j < m) → (m = 0 ∨ ∃ (k : Nat) (d : D), m = k + 1 ∧ ds[k]? = some d ∧ L k ∧ d.o.d = some t) →
    look (S m).e t = some v → ∃ v', a.tmps[t]? = some v' ∧ VR ψ v v'
  nts : a.tmps.size = nt
  dfs : a.defers = df

/-- The last that wrote a temp, ahead of a place. -/
theorem lastW (ds : List D) (t : Nat) : ∀ i, i ≤ ds.length → ∃ m, m ≤ i ∧ (∀ (j : Nat) d, ds[j]? = some d → m ≤ j → j < i → d.o.d ≠ some t) ∧ (m = 0 ∨ ∃ (k : Nat) (d : D), m = k + 1 ∧ ds[k]? = some d ∧ d.o.d = some t)
  | 0, _ => ⟨0, Nat.le_refl _, fun j d _ _ h => by omega, .inl rfl⟩
  | i + 1, h => by
    have hlt : i < ds.length := by omega
    by_cases e : (ds[i]).o.d = some t
    · exact ⟨i + 1, Nat.le_refl _, fun j d _ h1 h2 => by omega, .inr ⟨i, ds[i], rfl, List.getElem?_eq_getElem hlt, e⟩⟩
    · obtain ⟨m, h1, h2, h3⟩ := lastW ds t i (by omega)
      refine ⟨m, by omega, fun j d hd k1 k2 => ?_, h3⟩
      by_cases e2 : j = i
      · subst e2
        rw [List.getElem?_eq_getElem hlt] at hd
        cases hd
        exact e
      · exact h2 j d hd k1 (by omega)

/-- What a place that is ready knows: what stands ahead of it has been carried out; what it stands ahead of hasn't. -/
structure Ready (ds : List D) (B : Nat → Nat → Prop) (L : Nat → Prop) (i : Nat) (d : D) : Prop where
  at_ : ds[i]? = some d
  not : ¬ L i
  bef : ∀ j, j < i → B i j → L j
  aft : ∀ j, j < ds.length → L j → B j i → False

theorem Stage.reads (R : Reg P call nt ops ds S B) {φ0 : Phi} {w0 : World} {df : List Deferred} {top : Nat} {L : Nat → Prop} {a : Act} {w : World} {c : Nat} {ψ : Phi} (h : Stage P call nt ds S φ0 w0 df top L a w c ψ)
    {i : Nat} {d : D} (hi : Ready ds B L i d) : ∀ t ∈ d.o.names, ∀ v, look (S i).e t = some v → ∃ v', a.tmps[t]? = some v' ∧ VR ψ v v' := by
  intro t ht v hv
  have hlt : i < ds.length := (List.getElem?_eq_some_iff.1 hi.at_).1
  obtain ⟨m, h1, h2, h3⟩ := lastW ds t i (by omega)
  have e := R.keepT t (i - m) m (by omega) (fun j d hd k1 k2 => h2 j d hd k1 (by omega))
  rw [show m + (i - m) = i by omega] at e
  refine h.env t m v (by omega) (fun j dj hj hL hw => ?_) (h3.imp id ?_) (by rw [← e]; exact hv)
  · rcases Nat.lt_or_ge j m with k | k
    · exact k
    · exfalso
      rcases Nat.lt_or_ge j i with k2 | k2
      · exact h2 j dj hj k k2 hw
      · by_cases k3 : j = i
        · subst k3; exact hi.not hL
        · exact hi.aft j (List.getElem?_eq_some_iff.1 hj).1 hL (R.s4 i j d dj t hi.at_ hj (by omega) (.inr ⟨hw, ht⟩))
  · rintro ⟨k, dk, rfl, hk, hw⟩
    exact ⟨k, dk, rfl, hk, hi.bef k (by omega) (R.s4 k i dk d t hk hi.at_ (by omega) (.inl ⟨hw, ht⟩)), hw⟩
theorem Same.keep (e : Env) (ns : List Nat) : Same e (keepOf e ns) ns := by
  intro t ht
  cases hv : look e t with
  | none =>
    cases h2 : look (keepOf e ns) t with
    | none => rfl
    | some v => have := look_keepOf h2; rw [hv] at this; cases this
  | some v =>
    induction ns with
    | nil => cases ht
    | cons k r ih =>
      unfold keepOf
      by_cases hk : k = t
      · subst hk
        simp [hv, look]
      · have ht' : t ∈ r := by
          rcases List.mem_cons.1 ht with h | h
          · exact absurd h.symm hk
          · exact h
        cases hu : look e k with
        | none => simpa using ih ht'
        | some u => simp only [look, beq_eq, decide_eq_false hk, cond_false]; exact ih ht'
theorem Stage.envR (R : Reg P call nt ops ds S B) {φ0 : Phi} {w0 : World} {df : List Deferred} {top : Nat} {L : Nat → Prop} {a : Act} {w : World} {c : Nat} {ψ : Phi} (h : Stage P call nt ds S φ0 w0 df top L a w c ψ)
    {i : Nat} {d : D} (hi : Ready ds B L i d) : EnvR ψ (keepOf (S i).e d.o.names) a.tmps := by
  intro t v hv
  have hv0 := look_keepOf hv
  have ht : t ∈ d.o.names := by
    have key : ∀ (ns : List Nat), look (keepOf (S i).e ns) t = some v → t ∈ ns := by
      intro ns
      induction ns with
      | nil => intro h; simp [keepOf, look] at h
      | cons k r ih =>
        intro h
        unfold keepOf at h
        split at h
        · simp only [look, beq_eq] at h
          by_cases hk : k = t
          · subst hk; simp
          · rw [decide_eq_false hk, cond_false] at h; exact List.mem_cons_of_mem _ (ih h)
        · exact List.mem_cons_of_mem _ (ih h)
    exact key _ hv
  exact h.reads R hi t ht v hv0
/-- Temps behind a write. -/
theorem Stage.envPut (R : Reg P call nt ops ds S B) {φ0 : Phi} {w0 : World} {df : List Deferred} {top : Nat} {L : Nat → Prop} {a : Act} {w : World} {c : Nat} {ψ ψ' : Phi} (h : Stage P call nt ds S φ0 w0 df top L a w c ψ)
    {i : Nat} {d : D} (hi : Ready ds B L i d) {v v' : Value} (he : (S (i + 1)).e = put (S i).e d.o.d v) (hv : VR ψ' v v') (hle : Le ψ ψ') (hd : ∀ k, d.o.d = some k → k < nt) :
    ∀ (t m : Nat) u, m ≤ ds.length → (∀ (j : Nat) dj, ds[j]? = some dj → (j = i ∨ L j) → dj.o.d = some t → j < m) → (m = 0 ∨ ∃ (k : Nat) (dk : D), m = k + 1 ∧ ds[k]? = some dk ∧ (k = i ∨ L k) ∧ dk.o.d = some t) →
    look (S m).e t = some u → ∃ u', (a.put d.o.d v').tmps[t]? = some u' ∧ VR ψ' u u' := by
  intro t m u hm h1 h2 hu
  by_cases hdt : d.o.d = some t
  · have hlt := hd t hdt
    have hmi : m = i + 1 := by
      have g1 := h1 i d hi.at_ (.inl rfl) hdt
      rcases h2 with rfl | ⟨k, dk, rfl, hk, hL, hw⟩
      · omega
      · rcases hL with rfl | hL
        · rfl
        · exfalso
          have hki : i < k := by
            rcases Nat.lt_trichotomy i k with g | g | g
            · exact g
            · subst g; exact absurd hL hi.not
            · omega
          exact hi.aft k (List.getElem?_eq_some_iff.1 hk).1 hL (R.s4 i k d dk t hi.at_ hk hki (.inr ⟨hw, by simp [O.names, hdt]⟩))
    subst hmi
    rw [he, hdt] at hu
    simp only [M.put, look, beq_eq, decide_true, cond_true, Option.some.injEq] at hu
    subst hu
    have hn := h.nts
    exact ⟨v', by simp [Act.put, hdt, hn, hlt], hv⟩
  · obtain ⟨u', g1, g2⟩ := h.env t m u hm (fun j dj hj hL hw => h1 j dj hj (.inr hL) hw) (h2.imp id (fun ⟨k, dk, e1, e2, e3, e4⟩ => ⟨k, dk, e1, e2, by
      rcases e3 with rfl | e3
      · rw [hi.at_] at e2
        cases e2
        exact absurd e4 hdt
      · exact e3, e4⟩)) hu
    refine ⟨u', ?_, g2.mono hle⟩
    cases hdd : d.o.d with
    | none => exact g1
    | some k =>
      have : k ≠ t := fun e => hdt (by rw [hdd, e])
      simpa [Act.put, Array.getElem?_setIfInBounds_ne this] using g1

/-- One that is not wanted. -/
theorem Stage.skip (R : Reg P call nt ops ds S B) {φ0 : Phi} {w0 : World} {df : List Deferred} {top : Nat} {L : Nat → Prop} {a : Act} {w : World} {c : Nat} {ψ : Phi} (h : Stage P call nt ds S φ0 w0 df top L a w c ψ)
    {i : Nat} {d : D} (hi : Ready ds B L i d) (hw : d.o.want (S i).e = some false) (hs : S (i + 1) = { S i with e := put (S i).e d.o.d unit }) (hd : ∀ k, d.o.d = some k → k < nt) :
    Stage P call nt ds S φ0 w0 df top (fun j => j = i ∨ L j) (a.put d.o.d undef) w c ψ := by
  have ne : ∀ (j : Nat) dj, ds[j]? = some dj → dj.o.want (S j).e = some true → j ≠ i := fun j dj hj hwj e => by
    subst e
    rw [hi.at_] at hj
    cases hj
    rw [hw] at hwj
    cases hwj
  have or_ : ∀ (j : Nat) dj, ds[j]? = some dj → dj.o.want (S j).e = some true → (j = i ∨ L j) → L j := fun j dj hj hwj hL => hL.resolve_left (ne j dj hj hwj)
  exact ⟨h.cle, fun j dj hj h1 h2 => .inr (h.c1 j dj hj h1 h2), fun j dj hj h1 h2 h3 hL => h.c2 j dj hj h1 h2 h3 (or_ j dj hj h3 hL), h.c3.imp id (fun ⟨j, dj, e1, e2, e3, e4, e5⟩ => ⟨j, dj, e1, e2, e3, e4, .inr e5⟩), h.rel,
    fun j dj es z hj h1 h2 h3 hL => h.pnd j dj es z hj h1 h2 h3 (or_ j dj hj h3 hL),
    fun j j' d d' es z es' z' p p' a1 a2 a3 a4 a5 b1 b2 b3 b4 b5 => h.pnd2 j j' d d' es z es' z' p p' a1 a2 a3 a4 (or_ _ _ a1 a4 a5) b1 b2 b3 b4 (or_ _ _ b1 b4 b5),
    fun b h1 h2 h3 => by obtain ⟨j, dj, es, z, e1, e2, e3, e4, e5, e6⟩ := h.fresh b h1 h2 h3; exact ⟨j, dj, es, z, e1, e2, e3, e4, .inr e5, e6⟩,
    h.le, h.slow, h.shigh, h.os, h.tape, h.output, h.wsz, h.keep, h.img, h.envPut R hi (by rw [hs]) (VR.unit ψ) (Le.refl _) hd, by rw [size_put]; exact h.nts, by rw [defers_put]; exact h.dfs⟩

/-- One that is calm, or looks. -/
theorem Stage.calm (R : Reg P call nt ops ds S B) {φ0 : Phi} {w0 : World} {df : List Deferred} {top : Nat} {L : Nat → Prop} {a : Act} {w : World} {c : Nat} {ψ : Phi} (h : Stage P call nt ds S φ0 w0 df top L a w c ψ)
    {i : Nat} {d : D} (hi : Ready ds B L i d) (hc : d.o.i.cls = .calm ∨ d.o.i.cls = .load) {v v' : Value} {w' : World} {ψ' : Phi} (he : (S (i + 1)).e = put (S i).e d.o.d v) (hd : ∀ k, d.o.d = some k → k < nt)
    (hv : VR ψ' v v') (hr : Rel ψ' (S c).H w') (hst : Step ψ (S c).H w ψ' (S c).H w') :
    Stage P call nt ds S φ0 w0 df top (fun j => j = i ∨ L j) (a.put d.o.d v') w' c ψ := by
  have hψ : ψ' = ψ := funext fun b => hst.new b (by omega)
  subst hψ
  have nact : ∀ (j : Nat) dj, ds[j]? = some dj → dj.o.i.cls = .act → j ≠ i := fun j dj hj hwj e => by
    subst e
    rw [hi.at_] at hj
    cases hj
    rcases hc with hc | hc <;> rw [hwj] at hc <;> cases hc
  have nall : ∀ (j : Nat) dj es z, ds[j]? = some dj → dj.o.i = .alloc es z → j ≠ i := fun j dj es z hj hwj e => by
    subst e
    rw [hi.at_] at hj
    cases hj
    rw [hwj] at hc
    rcases hc with hc | hc <;> cases hc
  refine ⟨h.cle, fun j dj hj h1 h2 => .inr (h.c1 j dj hj h1 h2), fun j dj hj h1 h2 h3 hL => h.c2 j dj hj h1 h2 h3 (hL.resolve_left (nact j dj hj h2)), h.c3.imp id (fun ⟨j, dj, e1, e2, e3, e4, e5⟩ => ⟨j, dj, e1, e2, e3, e4, .inr e5⟩), hr,
    fun j dj es z hj h1 h2 h3 hL => ?_,
    fun j j' d d' es z es' z' p p' a1 a2 a3 a4 a5 b1 b2 b3 b4 b5 => h.pnd2 j j' d d' es z es' z' p p' a1 a2 a3 a4 (a5.resolve_left (nall _ _ _ _ a1 a3)) b1 b2 b3 b4 (b5.resolve_left (nall _ _ _ _ b1 b3)),
    fun b h1 h2 h3 => by obtain ⟨j, dj, es, z, e1, e2, e3, e4, e5, e6⟩ := h.fresh b h1 h2 h3; exact ⟨j, dj, es, z, e1, e2, e3, e4, .inr e5, e6⟩,
    h.le, h.slow, h.shigh, hst.os.trans h.os, hst.tape.trans h.tape, hst.output.trans h.output, Nat.le_trans h.wsz hst.size, fun k h1 h2 => ?_, h.img, h.envPut R hi he hv (Le.refl _) hd, by rw [size_put]; exact h.nts, by rw [defers_put]; exact h.dfs⟩
  · obtain ⟨p, hp⟩ := h.pnd j dj es z hj h1 h2 h3 (hL.resolve_left (nall j dj es z hj h2))
    obtain ⟨arr, g1, g2⟩ := hp.heap
    exact ⟨p, hp.at_, hp.o, hp.n, hp.es_, hp.len, ⟨arr, ((hst.keep p.r (Array.getElem?_eq_some_iff.1 g1).1 (fun e => hp.img e.img)).1).trans g1, g2⟩, hp.plain, hp.img, hp.new⟩
  · obtain ⟨g1, g2⟩ := h.keep k h1 h2
    exact ⟨((hst.keep k (Nat.lt_of_lt_of_le h1 h.wsz) g2).1).trans g1, g2⟩

/-- From the last that acted to a place: all rows between are taken in. -/
theorem Stage.absorb (R : Reg P call nt ops ds S B) {φ0 : Phi} {w0 : World} {df : List Deferred} {top : Nat} {L : Nat → Prop} {a : Act} {w : World} {c : Nat} {ψ : Phi} (h : Stage P call nt ds S φ0 w0 df top L a w c ψ)
    (i : Nat) (hci : c ≤ i) (hil : i ≤ ds.length) (hno : ∀ (j : Nat) d, ds[j]? = some d → c ≤ j → j < i → ¬ (d.o.i.cls = .act ∧ d.o.want (S j).e = some true))
    (hall : ∀ (j : Nat) d es z, ds[j]? = some d → c ≤ j → j < i → d.o.i = .alloc es z → d.o.want (S j).e = some true → L j) :
    Rel ψ (pushAll (S i).H (S i).pend) w ∧
    (∀ r, ¬ ImgB ψ (S c).H r → (∀ (j : Nat) d es z p, ds[j]? = some d → c ≤ j → j < i → d.o.i = .alloc es z → d.o.want (S j).e = some true → ψ (sz S j) = some p → r ≠ p.r) → ¬ ImgB ψ (pushAll (S i).H (S i).pend) r) ∧
    (∀ r, ¬ OwnB ψ (S c).H r → (∀ (j : Nat) d es z p, ds[j]? = some d → c ≤ j → j < i → d.o.i = .alloc es z → d.o.want (S j).e = some true → ψ (sz S j) = some p → r ≠ p.r) → ¬ OwnB ψ (pushAll (S i).H (S i).pend) r) := by
  have p0 : (S c).pend = [] := by
    rcases h.c3 with rfl | ⟨j, d, rfl, hd, hc, hw, _⟩
    · exact R.p0
    · cases R.way hd with
      | skip h1 h2 => rw [hw] at h1; cases h1
      | calm v h1 h2 => rw [hc] at h2; cases h2
      | far v h1 h2 => rw [hc] at h2; cases h2
      | load v h1 h2 => rw [hc] at h2; cases h2
      | alloc es z h1 h2 => rw [h2] at hc; cases hc
      | act v h1 h2 H' h3 h4 h5 => rw [h5]
  obtain ⟨n, rfl⟩ : ∃ n, i = c + n := ⟨i - c, by omega⟩
  induction n with
  | zero => rw [Nat.add_zero, p0]; exact ⟨h.rel, fun r h1 _ => h1, fun r h1 _ => h1⟩
  | succ n ih =>
    obtain ⟨r1, r2, r3⟩ := ih (by omega) (by omega) (fun j d hd k1 k2 => hno j d hd k1 (by omega)) (fun j d es z hd k1 k2 => hall j d es z hd k1 (by omega))
    have hlt : c + n < ds.length := by omega
    have hd := List.getElem?_eq_getElem hlt
    have same : (S (c + n + 1)).H = (S (c + n)).H → (S (c + n + 1)).pend = (S (c + n)).pend → _ := fun e1 e2 => (by
      rw [show c + (n + 1) = c + n + 1 by omega, e1, e2]
      exact ⟨r1, fun r g1 g2 => r2 r g1 (fun j d es z p a1 a2 a3 => g2 j d es z p a1 a2 (by omega)), fun r g1 g2 => r3 r g1 (fun j d es z p a1 a2 a3 => g2 j d es z p a1 a2 (by omega))⟩ :
      Rel ψ (pushAll (S (c + (n + 1))).H (S (c + (n + 1))).pend) w ∧
      (∀ r, ¬ ImgB ψ (S c).H r → (∀ (j : Nat) d es z p, ds[j]? = some d → c ≤ j → j < c + (n + 1) → d.o.i = .alloc es z → d.o.want (S j).e = some true → ψ (sz S j) = some p → r ≠ p.r) → ¬ ImgB ψ (pushAll (S (c + (n + 1))).H (S (c + (n + 1))).pend) r) ∧
      (∀ r, ¬ OwnB ψ (S c).H r → (∀ (j : Nat) d es z p, ds[j]? = some d → c ≤ j → j < c + (n + 1) → d.o.i = .alloc es z → d.o.want (S j).e = some true → ψ (sz S j) = some p → r ≠ p.r) → ¬ OwnB ψ (pushAll (S (c + (n + 1))).H (S (c + (n + 1))).pend) r))
    cases R.way hd with
    | skip h1 h2 => exact same (by rw [h2]) (by rw [h2])
    | calm v h1 h2 H1 h3 h4 => exact same (by rw [h4]) (by rw [h4])
    | far v h1 h2 H1 h3 h4 h5 => exact same (by rw [h5]) (by rw [h5])
    | load v h1 h2 H1 h3 p ce h4 h5 h6 h7 => exact same (by rw [h7]) (by rw [h7])
    | act v h1 h2 => exact absurd ⟨h2, h1⟩ (hno (c + n) _ hd (by omega) (by omega))
    | alloc es z h1 h2 h3 =>
      obtain ⟨p, hp⟩ := h.pnd (c + n) _ es z hd (by omega) h2 h1 (hall (c + n) _ es z hd (by omega) (by omega) h2 h1)
      have hsz : sz S (c + n) = (pushAll (S (c + n)).H (S (c + n)).pend).size := by rw [pushAll_size]; rfl
      have hp' : Pend ψ (pushAll (S (c + n)).H (S (c + n)).pend) w w0 (pushAll (S (c + n)).H (S (c + n)).pend).size es z p := by
        refine ⟨by rw [← hsz]; exact hp.at_, hp.o, hp.n, hp.es_, hp.len, hp.heap, hp.plain, r2 p.r hp.img (fun j d es' z' q a1 a2 a3 a4 a5 a6 => ?_), hp.new⟩
        exact h.pnd2 (c + n) j _ d es z es' z' p q hd (by omega) h2 h1 (hall (c + n) _ es z hd (by omega) (by omega) h2 h1) a1 a2 a4 a5 (hall j d es' z' a1 a2 (by omega) a4 a5) (by omega) hp.at_ a6
      obtain ⟨q1, q2, q3⟩ := r1.absorb hp'
      rw [show c + (n + 1) = c + n + 1 by omega, h3]
      simp only [pushAll_snoc]
      exact ⟨q1, fun r g1 g2 => q2 r (r2 r g1 (fun j d es' z' p' a1 a2 a3 => g2 j d es' z' p' a1 a2 (by omega))) (g2 (c + n) _ es z p hd (by omega) (by omega) h2 h1 hp.at_),
        fun r g1 g2 => q3 r (r3 r g1 (fun j d es' z' p' a1 a2 a3 => g2 j d es' z' p' a1 a2 (by omega))) (g2 (c + n) _ es z p hd (by omega) (by omega) h2 h1 hp.at_)⟩

/-- One that acts. -/
theorem Stage.act (R : Reg P call nt ops ds S B) {φ0 : Phi} {w0 : World} {df : List Deferred} {top : Nat} {L : Nat → Prop} {a : Act} {w : World} {c : Nat} {ψ : Phi} (h : Stage P call nt ds S φ0 w0 df top L a w c ψ)
    {i : Nat} {d : D} (hi : Ready ds B L i d) (hc : d.o.i.cls = .act) (hw : d.o.want (S i).e = some true) (hci : c ≤ i) (hil : i < ds.length) (htop : (S (i + 1)).H.size ≤ top)
    (ab : Rel ψ (pushAll (S i).H (S i).pend) w ∧
      (∀ r, ¬ ImgB ψ (S c).H r → (∀ (j : Nat) d es z p, ds[j]? = some d → c ≤ j → j < i → d.o.i = .alloc es z → d.o.want (S j).e = some true → ψ (sz S j) = some p → r ≠ p.r) → ¬ ImgB ψ (pushAll (S i).H (S i).pend) r) ∧
      (∀ r, ¬ OwnB ψ (S c).H r → (∀ (j : Nat) d es z p, ds[j]? = some d → c ≤ j → j < i → d.o.i = .alloc es z → d.o.want (S j).e = some true → ψ (sz S j) = some p → r ≠ p.r) → ¬ OwnB ψ (pushAll (S i).H (S i).pend) r))
    (hall : ∀ (j : Nat) d es z, ds[j]? = some d → c ≤ j → j < i → d.o.i = .alloc es z → d.o.want (S j).e = some true → L j)
    {v v' : Value} {w' : World} {ψ' : Phi} (he : (S (i + 1)).e = put (S i).e d.o.d v) (hpe : (S (i + 1)).pend = []) (hd : ∀ k, d.o.d = some k → k < nt)
    (hv : VR ψ' v v') (hr : Rel ψ' (S (i + 1)).H w') (hst : Step ψ (pushAll (S i).H (S i).pend) w ψ' (S (i + 1)).H w') :
    Stage P call nt ds S φ0 w0 df top (fun j => j = i ∨ L j) (a.put d.o.d v') w' (i + 1) ψ' := by
  have nall : ∀ (j : Nat) dj es z, ds[j]? = some dj → dj.o.i = .alloc es z → j ≠ i := fun j dj es z hj hwj e => by
    subst e
    rw [hi.at_] at hj
    cases hj
    rw [hwj] at hc
    cases hc
  have hsz1 : sz S (i + 1) = (S (i + 1)).H.size := by simp [sz, hpe]
  have hszi : sz S i = (pushAll (S i).H (S i).pend).size := by rw [pushAll_size]; rfl
  have up : ∀ j, i + 1 ≤ j → j ≤ ds.length → (S (i + 1)).H.size ≤ sz S j := fun j h1 h2 => by
    have := (R.szMono (j - (i + 1)) (i + 1) (by omega)).1
    rw [show i + 1 + (j - (i + 1)) = j by omega] at this
    omega
  have hcs : (S c).H.size ≤ (S (i + 1)).H.size := by
    have := (R.szMono (i + 1 - c) c (by omega)).2
    rwa [show c + (i + 1 - c) = i + 1 by omega] at this
  have h0s : (S 0).H.size ≤ (pushAll (S i).H (S i).pend).size := by
    have := (R.szMono i 0 (by omega)).2
    rw [Nat.zero_add] at this
    rw [pushAll_size]
    omega
  refine ⟨by omega, fun j dj hj h1 h2 => ?_, fun j dj hj h1 h2 h3 hL => ?_, .inr ⟨i, d, rfl, hi.at_, hc, hw, .inl rfl⟩, hr, fun j dj es z hj h1 h2 h3 hL => ?_,
    fun j j' d d' es z es' z' p p' a1 a2 a3 a4 a5 b1 b2 b3 b4 b5 hne q1 q2 => ?_, fun b h1 h2 h3 => ?_, h.le.trans hst.le, fun b hb => ?_, fun b hb => ?_, hst.os.trans h.os, hst.tape.trans h.tape, hst.output.trans h.output, Nat.le_trans h.wsz hst.size,
    fun k h1 h2 => ?_, fun k h1 h2 => ?_, h.envPut R hi he hv hst.le hd, by rw [size_put]; exact h.nts, by rw [defers_put]; exact h.dfs⟩
  · by_cases e : j = i
    · exact .inl e
    · exact .inr (hi.bef j (by omega) (R.s1 j i dj d hj hi.at_ (by omega) h2 hc))
  · rcases hL with e | hL
    · omega
    · exact hi.aft j (List.getElem?_eq_some_iff.1 hj).1 hL (R.s1 i j d dj hi.at_ hj (by omega) hc h2)
  · obtain ⟨p, hp⟩ := h.pnd j dj es z hj (by omega) h2 h3 (hL.resolve_left (nall j dj es z hj h2))
    obtain ⟨arr, g1, g2⟩ := hp.heap
    have hlt := (Array.getElem?_eq_some_iff.1 g1).1
    have hnimg : ¬ ImgB ψ (pushAll (S i).H (S i).pend) p.r := ab.2.1 p.r hp.img fun j' d' es' z' q a1 a2 a3 a4 a5 a6 =>
      h.pnd2 j j' dj d' es z es' z' p q hj (by omega) h2 h3 (hL.resolve_left (nall j dj es z hj h2)) a1 a2 a4 a5 (hall j' d' es' z' a1 a2 a3 a4 a5) (by omega) hp.at_ a6
    exact ⟨p, (hst.new _ (.inr (up j h1 (by have := (List.getElem?_eq_some_iff.1 hj).1; omega)))).trans hp.at_, hp.o, hp.n, hp.es_, hp.len, ⟨arr, ((hst.keep p.r hlt (fun e => hnimg e.img)).1).trans g1, g2⟩, hp.plain, hst.img p.r hlt hnimg, hp.new⟩
  · rw [hst.new _ (.inr (up j a2 (by have := (List.getElem?_eq_some_iff.1 a1).1; omega)))] at q1
    rw [hst.new _ (.inr (up j' b2 (by have := (List.getElem?_eq_some_iff.1 b1).1; omega)))] at q2
    exact h.pnd2 j j' d d' es z es' z' p p' a1 (by omega) a3 a4 (a5.resolve_left (nall _ _ _ _ a1 a3)) b1 (by omega) b3 b4 (b5.resolve_left (nall _ _ _ _ b1 b3)) hne q1 q2
  · rw [hst.new b (.inr h1)] at h3
    obtain ⟨j, dj, es, z, e1, e2, e3, e4, e5, e6⟩ := h.fresh b (by omega) h2 h3
    refine ⟨j, dj, es, z, e1, ?_, e3, e4, .inr e5, e6⟩
    rcases Nat.lt_or_ge i j with g | g
    · exact g
    · exfalso
      have hne := nall j dj es z e1 e3
      have g2 := (R.szStep e1).2.2 es z e3 e4
      have g3 := (R.szMono (i - (j + 1)) (j + 1) (by omega)).1
      rw [show j + 1 + (i - (j + 1)) = i by omega] at g3
      have g4 := hst.hsz
      omega
  · rw [hst.new b (.inl (by omega))]; exact h.slow b hb
  · rw [hst.new b (.inr (by omega))]; exact h.shigh b hb
  · obtain ⟨g1, g2⟩ := h.keep k h1 h2
    have g3 := ab.2.2 k g2 fun j dj es z p a1 a2 a3 a4 a5 a6 => by
      obtain ⟨p', hp'⟩ := h.pnd j dj es z a1 a2 a4 a5 (hall j dj es z a1 a2 a3 a4 a5)
      rw [hp'.at_] at a6
      cases a6
      have := hp'.new
      omega
    obtain ⟨k1, k2⟩ := hst.keep k (Nat.lt_of_lt_of_le h1 h.wsz) g3
    exact ⟨k1.trans g1, k2⟩
  · have g3 := ab.2.1 k (h.img k h1 h2) fun j dj es z p a1 a2 a3 a4 a5 a6 => by
      obtain ⟨p', hp'⟩ := h.pnd j dj es z a1 a2 a4 a5 (hall j dj es z a1 a2 a3 a4 a5)
      rw [hp'.at_] at a6
      cases a6
      have := hp'.new
      omega
    exact hst.img k (Nat.lt_of_lt_of_le h1 h.wsz) g3
end

end Go.Proofs.Ytnjmdkecpadehaa.M
