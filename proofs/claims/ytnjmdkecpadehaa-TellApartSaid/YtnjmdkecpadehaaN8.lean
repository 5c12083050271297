/- The framework N, eighth text: regions, pieces of code, calls. Conditions: as the laws say. -/
import Derived.Test.YtnjmdkecpadehaaN7
set_option linter.all false
set_option linter.unusedSimpArgs false
namespace Go.Proofs.Ytnjmdkecpadehaa.M

section
variable {F : Nat → Option Fun}
/-- A piece of code, over values that bear data. -/
def NWp (F : Nat → Option Fun) (c : C) (e : NEnv) (h : NHeap) (Q : Out → NEnv → NHeap → Prop) : Prop :=
  ∀ φ V K H em, SimH φ V K h H → EN φ V e em → Wp F c em H fun o em' H' => ∃ φ' V' K' e' h', Ext φ V K H φ' V' K' H' ∧ SimH φ' V' K' h' H' ∧ EN φ' V' e' em' ∧ Q o e' h'
/-- A call. -/
def NCall (F : Nat → Option Fun) (f : Nat) (vs : List NV) (h : NHeap) (Q : NV → NHeap → Prop) : Prop :=
  ∀ φ V K H us, SimH φ V K h H → L2 (N3 φ V) vs us → Cw F f us H fun u H' => ∃ φ' V' K' h' w, Ext φ V K H φ' V' K' H' ∧ SimH φ' V' K' h' H' ∧ N3 φ' V' w u ∧ Q w h'
/-- A call that turns no rows but these; g: it may come to know more. -/
def NCallT (F : Nat → Option Fun) (f : Nat) (vs : List NV) (h : NHeap) (T : List Nat) (g : Bool) (Q : NV → NHeap → Prop) : Prop :=
  ∀ φ V K H us, SimH φ V K h H → L2 (N3 φ V) vs us → Cw F f us H fun u H' => ∃ φ' V' K' h' w, Ext φ V K H φ' V' K' H' ∧ SimH φ' V' K' h' H' ∧ N3 φ' V' w u ∧ Rest φ h h' H H' T ∧ (g = false → V' = V) ∧ Q w h'
theorem NCallT.call {f : Nat} {vs : List NV} {h : NHeap} {T : List Nat} {g : Bool} {Q : NV → NHeap → Prop} (k : NCallT F f vs h T g Q) : NCall F f vs h Q := fun φ V K H us a b =>
  (k φ V K H us a b).mono fun u H' ⟨φ', V', K', h', w, c1, c2, c3, _, _, c4⟩ => ⟨φ', V', K', h', w, c1, c2, c3, c4⟩
theorem NCall.mono {f : Nat} {vs : List NV} {h : NHeap} {Q Q' : NV → NHeap → Prop} (k : NCall F f vs h Q) (hq : ∀ w h', Q w h' → Q' w h') : NCall F f vs h Q' := fun φ V K H us a b =>
  (k φ V K H us a b).mono fun u H' ⟨φ', V', K', h', w, c1, c2, c3, c4⟩ => ⟨φ', V', K', h', w, c1, c2, c3, hq _ _ c4⟩
theorem NCallT.mono {f : Nat} {vs : List NV} {h : NHeap} {T : List Nat} {g : Bool} {Q Q' : NV → NHeap → Prop} (k : NCallT F f vs h T g Q) (hq : ∀ w h', Q w h' → Q' w h') : NCallT F f vs h T g Q' := fun φ V K H us a b =>
  (k φ V K H us a b).mono fun u H' ⟨φ', V', K', h', w, c1, c2, c3, c5, c6, c4⟩ => ⟨φ', V', K', h', w, c1, c2, c3, c5, c6, hq _ _ c4⟩
theorem NWp.mono {c : C} {e : NEnv} {h : NHeap} {Q Q' : Out → NEnv → NHeap → Prop} (k : NWp F c e h Q) (hq : ∀ o e' h', Q o e' h' → Q' o e' h') : NWp F c e h Q' := fun φ V K H em a b =>
  (k φ V K H em a b).mono fun o em' H' ⟨φ', V', K', e', h', c1, c2, c3, c4⟩ => ⟨φ', V', K', e', h', c1, c2, c3, hq _ _ _ c4⟩

/-! ### Regions -/
/-- One operation, and what comes behind it. -/
def nstep (F : Nat → Option Fun) (i : I) (e : NEnv) (h : NHeap) (K : NV → NHeap → Prop) : Prop :=
  match i with
  | .call f xs => match nevs e xs with
    | some vs => NCall F f vs h K
    | none => False
  | .callv fx xs => match nev e fx, nevs e xs with
    | some (.fn f caps), some vs => NCall F f (vs ++ caps) h K
    | _, _ => False
  | i => match nrun e h i with
    | some (w, h') => K w h'
    | none => False
def nops (F : Nat → Option Fun) : List O → NEnv → NHeap → (NEnv → NHeap → Prop) → Prop
  | [], e, h, Q => Q e h
  | ⟨d, none, i⟩ :: r, e, h, Q => nstep F i e h fun w h' => nops F r (nput e d w) h' Q
  | ⟨d, some (t, b), i⟩ :: r, e, h, Q => match nlook e t with
    | some (.v (.bool p)) => if p = b then nstep F i e h fun w h' => nops F r (nput e d w) h' Q else nops F r (nput e d unitN) h Q
    | some (.tup _) => nops F r (nput e d unitN) h Q
    | _ => False
theorem WpO.callv {e : Env} {H : Heap} {Q : Env → Heap → Prop} {d : Option Nat} {fx : X} {f : Nat} {first cap : Array Value} {xs : List X} {r : List O} {vs : List Value} (hf : fx.ev e = some (.func (.func f) first cap)) (h : evs e xs = some vs) (hc : Cw F f (first.toList ++ vs ++ cap.toList) H fun v H1 => WpO F r (put e d v) H1 Q) : WpO F (⟨d, none, .callv fx xs⟩ :: r) e H Q := by
  obtain ⟨n, v, H1, h1, m, e2, H2, h2, h3⟩ := hc
  refine ⟨max n m, e2, H2, ?_, h3⟩
  unfold runOps
  simp only [O.run, O.want, I.run, hf, h, callN_le (Nat.le_max_left n m) _ _ _ _ h1]
  exact runOps_le (callN_le (Nat.le_max_right n m)) h2
theorem nrun_sound {φ : NPhi} {V K : View} {h h' : NHeap} {H : Heap} {e : NEnv} {em : Env} (he : EN φ V e em) (sim : SimH φ V K h H) {i : I} {x : NV} (hr : nrun e h i = some (x, h')) : Acts φ V K h H em i (ntouch e i) x h' := by
  cases hc : i.cls with
  | calm =>
    obtain ⟨rfl, u, h1, h2⟩ := ncalm_sound he sim hc hr
    exact ⟨φ, H, u, h1, Ext.refl _ _ _ _, sim, h2, Rest.refl _⟩
  | load =>
    obtain ⟨rfl, u, h1, h2, _⟩ := nload_sound he sim hc hr
    exact ⟨φ, H, u, h1, Ext.refl _ _ _ _, sim, h2, Rest.refl _⟩
  | act => exact nact_sound he sim (.inl hc) hr
  | alloc => exact nact_sound he sim (.inr hc) hr
theorem isCall_cases (i : I) : isCall i = false ∨ (∃ f xs, i = .call f xs) ∨ ∃ f xs, i = .callv f xs := by
  cases i <;> first
    | exact .inl rfl
    | exact .inr (.inl ⟨_, _, rfl⟩)
    | exact .inr (.inr ⟨_, _, rfl⟩)
theorem nstep_run {i : I} (hi : isCall i = false) {e : NEnv} {h : NHeap} {K : NV → NHeap → Prop} (k : nstep F i e h K) : ∃ w h', nrun e h i = some (w, h') ∧ K w h' := by
  unfold nstep at k
  cases i <;> first
    | (cases hi; done)
    | (simp only at k
       split at k
       · rename_i w h' hr; exact ⟨w, h', hr, k⟩
       · exact k.elim)
theorem nstep_sound {i : I} {e : NEnv} {h : NHeap} {KQ : NV → NHeap → Prop} (k : nstep F i e h KQ) {φ : NPhi} {V K : View} {H : Heap} {em : Env} (sim : SimH φ V K h H) (he : EN φ V e em) {d : Option Nat} {r : List O} {R : Env → Heap → Prop}
    (hR : ∀ φ' V' K' H' h' w u, Ext φ V K H φ' V' K' H' → SimH φ' V' K' h' H' → N3 φ' V' w u → KQ w h' → WpO F r (put em d u) H' R) : WpO F (⟨d, none, i⟩ :: r) em H R := by
  rcases isCall_cases i with hi | ⟨f, xs, rfl⟩ | ⟨fx, xs, rfl⟩
  · obtain ⟨w, h', hr, k⟩ := nstep_run hi k
    obtain ⟨φ', H', u, h1, h2, h3, h4, _⟩ := nrun_sound he sim hr
    exact WpO.op h1 (hR _ _ _ _ _ _ _ h2 h3 h4 k)
  · simp only [nstep] at k
    split at k
    · rename_i vs hv
      obtain ⟨us, e1, k1⟩ := nevs_sound he hv
      exact WpO.call e1 ((k φ V K H us sim k1).mono fun u H' ⟨φ', V', K', h', w, c1, c2, c3, c4⟩ => hR _ _ _ _ _ _ _ c1 c2 c3 c4)
    · exact k.elim
  · simp only [nstep] at k
    split at k
    · rename_i f caps vs hf hv
      obtain ⟨us, e1, k1⟩ := nevs_sound he hv
      obtain ⟨uf, e2, k2⟩ := nev_sound he hf
      obtain ⟨a, rfl, k3⟩ := k2.fn
      refine WpO.callv e2 e1 ((k φ V K H (us ++ a.toList) sim (L2.append k1 (k3.imp fun _ _ => N3.of1))).mono fun u H' ⟨φ', V', K', h', w, c1, c2, c3, c4⟩ => hR _ _ _ _ _ _ _ c1 c2 c3 c4)
    · exact k.elim
theorem nops_sound : ∀ {ops : List O} {e : NEnv} {h : NHeap} {Q : NEnv → NHeap → Prop}, nops F ops e h Q → ∀ {φ : NPhi} {V K : View} {H : Heap} {em : Env}, SimH φ V K h H → EN φ V e em →
    WpO F ops em H fun em' H' => ∃ φ' V' K' e' h', Ext φ V K H φ' V' K' H' ∧ SimH φ' V' K' h' H' ∧ EN φ' V' e' em' ∧ Q e' h'
  | [], e, h, Q, k, φ, V, K, H, em, sim, he => WpO.nil ⟨φ, V, K, e, h, Ext.refl _ _ _ _, sim, he, k⟩
  | ⟨d, none, i⟩ :: r, e, h, Q, k, φ, V, K, H, em, sim, he => by
    refine nstep_sound k sim he fun φ' V' K' H' h' w u c1 c2 c3 c4 => ?_
    obtain ⟨n, em2, H2, g1, φ2, V2, K2, e2, h2, g2, g3⟩ := nops_sound c4 c2 ((he.mono c1.phi c1.v).put d c3)
    exact ⟨n, em2, H2, g1, φ2, V2, K2, e2, h2, c1.trans g2, g3⟩
  | ⟨d, some (t, b), i⟩ :: r, e, h, Q, k, φ, V, K, H, em, sim, he => by
    simp only [nops] at k
    split at k
    · rename_i p hp
      obtain ⟨up, e1, k1⟩ := he t _ hp
      obtain ⟨rfl, _⟩ := k1.v
      refine WpO.guard e1 (fun hpb => ?_) (fun hpb => ?_)
      · rw [if_pos hpb] at k
        refine nstep_sound k sim he fun φ' V' K' H' h' w u c1 c2 c3 c4 => ?_
        obtain ⟨n, em2, H2, g1, φ2, V2, K2, e2, h2, g2, g3⟩ := nops_sound c4 c2 ((he.mono c1.phi c1.v).put d c3)
        exact ⟨n, em2, H2, g1, φ2, V2, K2, e2, h2, c1.trans g2, g3⟩
      · rw [if_neg hpb] at k
        exact nops_sound k sim (he.put d N3.unit)
    · rename_i vs hp
      obtain ⟨up, e1, k1⟩ := he t _ hp
      obtain ⟨a, rfl, _⟩ := k1.tup
      obtain ⟨n, em2, H2, g1, g2⟩ := nops_sound k sim (he.put d N3.unit)
      exact ⟨n, em2, H2, by simp only [runOps, O.run, O.want, e1]; exact g1, g2⟩
    · exact k.elim

/-! ### Regions that draw their order -/
structure NDS where
  e : NEnv
  h : NHeap
  np : Nat
  lds : List (Nat × LTag)
  hbs : List (Nat × Nat × List Nat × Bool)
def tagOk (T : List Nat) : Option LTag → Prop
  | some (.own r) => r ∉ T
  | some .bad => False
  | _ => True
def chkA (lds : List (Nat × LTag)) (T : List Nat) : List Nat → Prop
  | [] => True
  | j :: l => tagOk T (findN lds j) ∧ chkA lds T l
def hbOk (tag : LTag) : Option (Nat × List Nat × Bool) → Prop
  | none => True
  | some (nx, T, g) => match tag with
    | .own r => r < nx ∧ r ∉ T
    | .frz => g = false
    | .bad => False
def chkL (hbs : List (Nat × Nat × List Nat × Bool)) (tag : LTag) : List Nat → Prop
  | [] => True
  | j :: l => hbOk tag (findN hbs j) ∧ chkL hbs tag l
def killT (T : List Nat) : LTag → LTag
  | .own r => if r ∈ T then .bad else .own r
  | t => t
def killL (T : List Nat) : List (Nat × LTag) → List (Nat × LTag)
  | [] => []
  | (j, t) :: l => (j, killT T t) :: killL T l
def moreB (T : List Nat) (g : Bool) : List (Nat × Nat × List Nat × Bool) → List (Nat × Nat × List Nat × Bool)
  | [] => []
  | (j, nx, T', g') :: l => (j, nx, T' ++ T, g' || g) :: moreB T g l
/-- Behind an act. -/
def ndact (k : Nat) (d : Option Nat) (s : NDS) (T : List Nat) (g : Bool) (w : NV) (h' : NHeap) : NDS := ⟨nput s.e d w, h', h'.nx, killL T s.lds, (k, s.np, T, g) :: moreB T g s.hbs⟩
def NCallD (F : Nat → Option Fun) (f : Nat) (vs : List NV) (h : NHeap) (K : List Nat → Bool → NV → NHeap → Prop) : Prop := ∃ T g, NCallT F f vs h T g (K T g)
def ndK (k : Nat) (d : Option Nat) (chk : List Nat) (s : NDS) (K : NDS → Prop) (T : List Nat) (g : Bool) (w : NV) (h' : NHeap) : Prop := chkA s.lds T chk ∧ K (ndact k d s T g w h')
def tagNp (np : Nat) : LTag → Prop
  | .own r => r < np
  | _ => True
def ndld (k : Nat) (chk : List Nat) (s : NDS) : Option LTag → Option (List (Nat × LTag))
  | none => some s.lds
  | some t => some ((k, t) :: s.lds)
def ndstep (F : Nat → Option Fun) (k : Nat) (d : Option Nat) (chk : List Nat) (i : I) (s : NDS) (K : NDS → Prop) : Prop :=
  match i with
  | .call f xs => match nevs s.e xs with
    | some vs => NCallD F f vs s.h (ndK k d chk s K)
    | none => False
  | .callv fx xs => match nev s.e fx, nevs s.e xs with
    | some (.fn f caps), some vs => NCallD F f (vs ++ caps) s.h (ndK k d chk s K)
    | _, _ => False
  | i => match nrun s.e s.h i with
    | some (w, h') => match i.cls with
      | .calm => K { s with e := nput s.e d w }
      | .load => match ntag s.e i with
        | none => K { s with e := nput s.e d w }
        | some t => tagNp s.np t ∧ chkL s.hbs t chk ∧ K { s with e := nput s.e d w, lds := (k, t) :: s.lds }
      | .alloc => K { s with e := nput s.e d w, h := h' }
      | .act => ndK k d chk s K (ntouch s.e i) false w h'
    | none => False
def nds (F : Nat → Option Fun) : Nat → List D → NDS → (NDS → Prop) → Prop
  | _, [], s, Q => Q s
  | k, ⟨⟨d, none, i⟩, chk⟩ :: r, s, Q => ndstep F k d chk i s fun s' => nds F (k + 1) r s' Q
  | k, ⟨⟨d, some (t, b), i⟩, chk⟩ :: r, s, Q => match nlook s.e t with
    | some (.v (.bool p)) => if p = b then ndstep F k d chk i s fun s' => nds F (k + 1) r s' Q else nds F (k + 1) r { s with e := nput s.e d unitN } Q
    | some (.tup _) => nds F (k + 1) r { s with e := nput s.e d unitN } Q
    | _ => False
def LdR (φ : NPhi) (V : View) (h : NHeap) (H : Heap) (p : Nat × Nat × Nat) (ce : List Value × Nat) : LTag → Prop
  | .own r => (∃ w, φ r = some (.at p.1 w)) ∧ h.get r ≠ none ∧ ldOk H p ce = true
  | .frz => (∃ row, V p.1 = some row) ∧ ldOk H p ce = true
  | .bad => True
structure DR (φ : NPhi) (V K : View) (k : Nat) (s : NDS) (sm : DS) : Prop where
  sim : SimH φ V K s.h (pushAll sm.H sm.pend)
  en : EN φ V s.e sm.e
  vH : V.le sm.H.get
  np : ∀ r b w, r < s.np → φ r = some (.at b w) → s.h.get r ≠ none → b < sm.H.size
  npn : s.np ≤ s.h.nx
  okH : sm.H.ok
  lds : ∀ j p ce, findN sm.lds j = some (p, ce) → ∃ t, findN s.lds j = some t ∧ LdR φ V s.h (pushAll sm.H sm.pend) p ce t
  hbs : ∀ j Hj, findN sm.hbs j = some Hj → ∃ nx T g, findN s.hbs j = some (nx, T, g) ∧ nx ≤ s.h.nx ∧ (g = false → V.le Hj.get) ∧ ∀ r b w, r < nx → r ∉ T → φ r = some (.at b w) → s.h.get r ≠ none → Hj.get b = (pushAll sm.H sm.pend).get b
  lk : ∀ j x, findN sm.lds j = some x → j < k
theorem pushAll_get {b : Nat} : ∀ {H : Heap} (_ : b < H.size) (l : List Row), (pushAll H l).get b = H.get b
  | H, hb, [] => rfl
  | H, hb, a :: l => by
    rw [pushAll, pushAll_get (by rw [Heap.size_push]; omega), Heap.get_push, if_neg (by omega)]
theorem peekAt_congr {H H2 : Heap} {p : Nat × Nat × Nat} (h : H.get p.1 = H2.get p.1) : peekAt H p = peekAt H2 p := by
  unfold peekAt Heap.loadN
  rw [h]
theorem ldOk_congr {H H2 : Heap} {p : Nat × Nat × Nat} {ce : List Value × Nat} (h : H.get p.1 = H2.get p.1) : ldOk H p ce = ldOk H2 p ce := by
  unfold ldOk
  rw [peekAt_congr h]
theorem findN_kill {T : List Nat} {j : Nat} {t : LTag} : ∀ {l : List (Nat × LTag)}, findN l j = some t → findN (killL T l) j = some (killT T t)
  | (k, u) :: l, h => by
    simp only [findN, killL, beq_eq, cond_eq_ite, decide_eq_true_eq] at h ⊢
    by_cases e : k = j
    · rw [if_pos e] at h ⊢
      cases h
      rfl
    · rw [if_neg e] at h ⊢
      exact findN_kill h
theorem findN_more {T : List Nat} {g : Bool} {j nx : Nat} {T' : List Nat} {g' : Bool} : ∀ {l : List (Nat × Nat × List Nat × Bool)}, findN l j = some (nx, T', g') → findN (moreB T g l) j = some (nx, T' ++ T, g' || g)
  | (k, n, t, u) :: l, h => by
    simp only [findN, moreB, beq_eq, cond_eq_ite, decide_eq_true_eq] at h ⊢
    by_cases e : k = j
    · rw [if_pos e] at h ⊢
      cases h
      rfl
    · rw [if_neg e] at h ⊢
      exact findN_more h
theorem chkA_sound {φ : NPhi} {V : View} {h : NHeap} {H H' : Heap} {T : List Nat} {lds : List (Nat × LTag)} {ldm : List (Nat × (Nat × Nat × Nat) × (List Value × Nat))} (hl : ∀ j p ce, findN ldm j = some (p, ce) → ∃ t, findN lds j = some t ∧ LdR φ V h H p ce t)
    (hT : ∀ r b w, r ∉ T → φ r = some (.at b w) → h.get r ≠ none → H'.get b = H.get b) (hV : ∀ b row, V b = some row → H'.get b = H.get b) : ∀ {chk : List Nat}, chkA lds T chk → chkAct ldm H' chk = true
  | [], _ => rfl
  | j :: l, ⟨h1, h2⟩ => by
    unfold chkAct
    rw [chkA_sound (h := h) hl hT hV h2, Bool.and_true]
    split
    · rename_i p ce hf
      obtain ⟨t, e1, k1⟩ := hl j p ce hf
      rw [e1] at h1
      cases t with
      | frz =>
        obtain ⟨⟨row, k1⟩, k2⟩ := k1
        rw [ldOk_congr (hV _ _ k1)]; exact k2
      | own r =>
        obtain ⟨⟨w, k1⟩, k2, k3⟩ := k1
        rw [ldOk_congr (hT r _ w h1 k1 k2)]; exact k3
      | bad => exact h1.elim
    · rfl
/-- The state behind an act. -/
theorem DR.act {φ φ' : NPhi} {V V' K K' : View} {s : NDS} {sm : DS} {k : Nat} (D : DR φ V K k s sm) {d : Option Nat} {T : List Nat} {g : Bool} {w : NV} {u : Value} {h' : NHeap} {H' : Heap} (x : Ext φ V K (pushAll sm.H sm.pend) φ' V' K' H') (sim : SimH φ' V' K' h' H') (hw : N3 φ' V' w u)
    (rs : Rest φ s.h h' (pushAll sm.H sm.pend) H' T) (hg : g = false → V' = V) : DR φ' V' K' (k + 1) (ndact k d s T g w h') { sm with e := put sm.e d u, H := H', pend := [], hbs := (k, sm.H) :: sm.hbs } := by
  have hVH : V'.le H'.get := sim.vk.trans sim.kh
  have back : ∀ r b w, φ' r = some (.at b w) → r < s.h.nx → h'.get r ≠ none → r ∉ T → φ r = some (.at b w) ∧ s.h.get r ≠ none := fun r b w e1 e2 e3 e4 => by
    rw [rs.get r e4 e2] at e3
    refine ⟨?_, e3⟩
    cases hg : s.h.get r with
    | none => exact absurd hg e3
    | some row =>
      rcases D.sim.rows r row hg with ⟨p, _⟩ | ⟨b', p, _⟩
      · rw [x.phi _ _ p] at e1; cases e1
      · have := x.phi _ _ p
        rw [this] at e1
        cases e1
        exact p
  have hrow : ∀ r b w, r ∉ T → φ r = some (.at b w) → s.h.get r ≠ none → H'.get b = (pushAll sm.H sm.pend).get b := fun r b w e1 e2 e3 => by
    cases hg : s.h.get r with
    | none => exact absurd hg e3
    | some row => exact rs.row r row b w hg e2 e1
  refine ⟨sim, (D.en.mono x.phi x.v).put d hw, hVH, fun r b w e1 e2 e3 => ?_, Nat.le_refl _, sim.ok, fun j p ce hf => ?_, fun j Hj hf => ?_, fun j x hj => Nat.lt_succ_of_lt (D.lk j x hj)⟩
  · cases hg : h'.get r with
    | none => exact absurd hg e3
    | some row =>
      obtain ⟨_, ⟨c, t, q, _⟩, _⟩ := sim.row_at hg e2
      exact sim.ok _ _ q
  · obtain ⟨t, e1, k1⟩ := D.lds j p ce hf
    refine ⟨killT T t, findN_kill e1, ?_⟩
    cases t with
    | frz =>
      obtain ⟨⟨row, k1⟩, k2⟩ := k1
      refine ⟨⟨row, x.v _ _ k1⟩, ?_⟩
      rw [ldOk_congr (H2 := pushAll sm.H sm.pend)]
      · exact k2
      · show H'.get _ = _
        rw [hVH _ _ (x.v _ _ k1), D.sim.kh _ _ (D.sim.vk _ _ k1)]
    | own r =>
      obtain ⟨⟨w, k1⟩, k2, k3⟩ := k1
      by_cases hr : r ∈ T
      · simp only [killT, if_pos hr]; exact trivial
      · simp only [killT, if_neg hr]
        refine ⟨⟨w, x.phi _ _ k1⟩, ?_, ?_⟩
        · have : r < s.h.nx := by
            cases hg : s.h.get r with
            | none => exact absurd hg k2
            | some row => exact D.sim.live hg
          show h'.get r ≠ none
          rw [rs.get r hr this]; exact k2
        · rw [ldOk_congr (H2 := pushAll sm.H sm.pend)]
          · exact k3
          · exact hrow r _ w hr k1 k2
    | bad => exact trivial
  · simp only [findN, beq_eq, cond_eq_ite, decide_eq_true_eq] at hf
    by_cases hj : k = j
    · rw [if_pos hj] at hf
      cases hf
      refine ⟨s.np, T, g, by simp [ndact, findN, beq_eq, hj], Nat.le_trans D.npn rs.nx, fun hg0 => ?_, fun r b w e1 e2 e3 e4 => ?_⟩
      · rw [hg hg0]; exact D.vH
      · obtain ⟨e5, e6⟩ := back r b w e3 (Nat.lt_of_lt_of_le e1 D.npn) e4 e2
        have := D.np r b w e1 e5 e6
        show sm.H.get b = H'.get b
        rw [hrow r b w e2 e5 e6, pushAll_get this]
    · rw [if_neg hj] at hf
      obtain ⟨nx, T', g', e1, e0, e2, e3⟩ := D.hbs j Hj hf
      refine ⟨nx, T' ++ T, g' || g, ?_, Nat.le_trans e0 rs.nx, fun hg0 => ?_, fun r b w f1 f2 f3 f4 => ?_⟩
      · simp only [ndact, findN, beq_eq, cond_eq_ite, decide_eq_true_eq]
        rw [if_neg hj]
        exact findN_more e1
      · rw [Bool.or_eq_false_iff] at hg0
        rw [hg hg0.2]
        exact e2 hg0.1
      · rw [List.mem_append, not_or] at f2
        rcases Nat.lt_or_ge r s.h.nx with hr | hr
        · obtain ⟨e5, e6⟩ := back r b w f3 hr f4 f2.2
          rw [e3 r b w f1 f2.1 e5 e6]
          show _ = H'.get b
          rw [hrow r b w f2.2 e5 e6]
        · exfalso
          exact Nat.lt_irrefl _ (Nat.lt_of_lt_of_le f1 (Nat.le_trans e0 hr))
theorem chkL_sound {φ : NPhi} {V K : View} {s : NDS} {sm : DS} {k : Nat} (D : DR φ V K k s sm) {p : Nat × Nat × Nat} {t : LTag} {ce : List Value × Nat} (ht : TagR φ V s.h p.1 (some t)) (hp : peekAt (pushAll sm.H sm.pend) p = some ce) (hs : sameVals ce.1 ce.1 = true) : ∀ {chk : List Nat}, chkL s.hbs t chk → chkLd sm.hbs p ce chk = true
  | [], _ => rfl
  | j :: l, ⟨h1, h2⟩ => by
    unfold chkLd
    rw [chkL_sound D ht hp hs h2, Bool.and_true]
    split
    · rename_i Hj hf
      obtain ⟨nx, T, g, e1, e0, e2, e3⟩ := D.hbs j Hj hf
      rw [e1] at h1
      have key : Hj.get p.1 = (pushAll sm.H sm.pend).get p.1 → ldOk Hj p ce = true := fun e => by
        unfold ldOk
        rw [peekAt_congr e, hp]
        simp only [hs, Nat.beq_refl, Bool.and_self]
      apply key
      cases t with
      | frz =>
        obtain ⟨row, hv⟩ := ht
        rw [e2 h1 _ _ hv, D.sim.kh _ _ (D.sim.vk _ _ hv)]
      | own r =>
        obtain ⟨w, k1, k2⟩ := ht
        exact e3 r _ w h1.1 h1.2 k1 k2
      | bad => exact h1.elim
    · rfl
/-- What the walk of a region comes to. -/
def DPost (φ : NPhi) (V K : View) (H : Heap) (Q : NDS → Prop) (sm' : DS) : Prop := ∃ φ' V' K' s', Ext φ V K H φ' V' K' (pushAll sm'.H sm'.pend) ∧ (∃ k, DR φ' V' K' k s' sm') ∧ Q s'
theorem WpD.mono {k : Nat} {ds : List D} {s : DS} {Q Q' : DS → Prop} (h : WpD F k ds s Q) (hq : ∀ s, Q s → Q' s) : WpD F k ds s Q' := by
  obtain ⟨n, s', h1, h2⟩ := h
  exact ⟨n, s', h1, hq _ h2⟩
theorem WpD.callv {k : Nat} {d : Option Nat} {fx : X} {f : Nat} {first cap : Array Value} {xs : List X} {chk : List Nat} {r : List D} {s : DS} {Q : DS → Prop} {vs : List Value} (hf : fx.ev s.e = some (.func (.func f) first cap)) (h : evs s.e xs = some vs)
    (hc : Cw F f (first.toList ++ vs ++ cap.toList) (pushAll s.H s.pend) fun v H1 => chkAct s.lds H1 chk = true ∧ WpD F (k + 1) r { s with e := put s.e d v, H := H1, pend := [], hbs := (k, s.H) :: s.hbs } Q) : WpD F k (⟨⟨d, none, .callv fx xs⟩, chk⟩ :: r) s Q := by
  obtain ⟨n, v, H1, h1, hk, m, s2, h2, h3⟩ := hc
  refine ⟨max n m, s2, ?_, h3⟩
  unfold runDs
  simp only [D.run, O.want, I.cls, I.run, hf, h, callN_le (Nat.le_max_left n m) _ _ _ _ h1, hk, cond_true]
  exact runDs_le (callN_le (Nat.le_max_right n m)) h2
theorem DR.call {φ φ' : NPhi} {V V' K K' : View} {s : NDS} {sm : DS} {k : Nat} (D : DR φ V K k s sm) {d : Option Nat} {chk : List Nat} {KQ : NDS → Prop} {T : List Nat} {g : Bool} {w : NV} {u : Value} {h' : NHeap} {H' : Heap} (x : Ext φ V K (pushAll sm.H sm.pend) φ' V' K' H') (sim : SimH φ' V' K' h' H') (hw : N3 φ' V' w u)
    (rs : Rest φ s.h h' (pushAll sm.H sm.pend) H' T) (hg : g = false → V' = V) (hk : ndK k d chk s KQ T g w h') :
    chkAct sm.lds H' chk = true ∧ ∃ s', DR φ' V' K' (k + 1) s' { sm with e := put sm.e d u, H := H', pend := [], hbs := (k, sm.H) :: sm.hbs } ∧ KQ s' := by
  obtain ⟨h1, h2⟩ := hk
  refine ⟨chkA_sound (h := s.h) D.lds (fun r b w e1 e2 e3 => ?_) (fun b row e => ?_) h1, _, D.act x sim hw rs hg, h2⟩
  · cases hg : s.h.get r with
    | none => exact absurd hg e3
    | some row => exact rs.row r row b w hg e2 e1
  · rw [sim.kh _ _ (sim.vk _ _ (x.v _ _ e)), D.sim.kh _ _ (D.sim.vk _ _ e)]
theorem ndstep_sound {k : Nat} {d : Option Nat} {chk : List Nat} {i : I} {s : NDS} {KQ : NDS → Prop} (hk : ndstep F k d chk i s KQ) {φ : NPhi} {V K : View} {sm : DS} (dr : DR φ V K k s sm) {r : List D} {R : DS → Prop}
    (hR : ∀ φ' V' K' s' sm', Ext φ V K (pushAll sm.H sm.pend) φ' V' K' (pushAll sm'.H sm'.pend) → DR φ' V' K' (k + 1) s' sm' → KQ s' → WpD F (k + 1) r sm' R) : WpD F k (⟨⟨d, none, i⟩, chk⟩ :: r) sm R := by
  rcases isCall_cases i with hi | ⟨f, xs, rfl⟩ | ⟨fx, xs, rfl⟩
  · have hk' : ∃ w h', nrun s.e s.h i = some (w, h') ∧ (match i.cls with
        | .calm => KQ { s with e := nput s.e d w }
        | .load => match ntag s.e i with
          | none => KQ { s with e := nput s.e d w }
          | some t => tagNp s.np t ∧ chkL s.hbs t chk ∧ KQ { s with e := nput s.e d w, lds := (k, t) :: s.lds }
        | .alloc => KQ { s with e := nput s.e d w, h := h' }
        | .act => ndK k d chk s KQ (ntouch s.e i) false w h') := by
      unfold ndstep at hk
      cases i <;> first
        | (cases hi; done)
        | (simp only at hk
           split at hk
           · rename_i w h' hr; exact ⟨w, h', hr, hk⟩
           · exact hk.elim)
    obtain ⟨w, h', hr, hk⟩ := hk'
    cases hc : i.cls with
    | calm =>
      rw [hc] at hk
      obtain ⟨rfl, u, h1, h2⟩ := ncalm_sound dr.en dr.sim hc hr
      have h3 := (I.run_calm hc h1).2 sm.H
      refine WpD.cons (s1 := { sm with e := put sm.e d u }) ?_ (hR φ V K { s with e := nput s.e d w } _ (Ext.refl _ _ _ _) ⟨dr.sim, dr.en.put d h2, dr.vH, dr.np, dr.npn, dr.okH, dr.lds, dr.hbs, fun j x hj => Nat.lt_succ_of_lt (dr.lk j x hj)⟩ hk)
      simp only [D.run, O.want, hc, h3]
    | load =>
      rw [hc] at hk
      obtain ⟨rfl, u, h1, h2, h3⟩ := nload_sound dr.en dr.sim hc hr
      cases hp : i.peek sm.e with
      | none =>
        have h4 := (I.run_peek (H2 := sm.H) hc h1).2.1 hp
        refine WpD.cons (s1 := { sm with e := put sm.e d u }) (by simp only [D.run, O.want, hc, h4, hp]) ?_
        simp only at hk
        split at hk
        · exact hR φ V K { s with e := nput s.e d w } _ (Ext.refl _ _ _ _) ⟨dr.sim, dr.en.put d h2, dr.vH, dr.np, dr.npn, dr.okH, dr.lds, dr.hbs, fun j x hj => Nat.lt_succ_of_lt (dr.lk j x hj)⟩ hk
        · rename_i t ht
          refine hR φ V K { s with e := nput s.e d w, lds := (k, t) :: s.lds } _ (Ext.refl _ _ _ _) ⟨dr.sim, dr.en.put d h2, dr.vH, dr.np, dr.npn, dr.okH, fun j p ce hf => ?_, dr.hbs, fun j x hj => Nat.lt_succ_of_lt (dr.lk j x hj)⟩ hk.2.2
          obtain ⟨t', e1, e2⟩ := dr.lds j p ce hf
          by_cases hj : k = j
          · have := dr.lk j _ hf
            omega
          · exact ⟨t', by simp only [findN, beq_eq, cond_eq_ite, decide_eq_true_eq]; rw [if_neg hj]; exact e1, e2⟩
      | some p =>
        obtain ⟨ht, ce, hce, hsm⟩ := h3 p hp
        cases htag : ntag s.e i with
        | none => rw [htag] at ht; exact ht.elim
        | some t =>
          rw [htag] at ht hk
          obtain ⟨k1, k2, k3⟩ := hk
          have hrow : sm.H.get p.1 = (pushAll sm.H sm.pend).get p.1 := by
            cases t with
            | frz =>
              obtain ⟨row, hv⟩ := ht
              rw [dr.vH _ _ hv, dr.sim.kh _ _ (dr.sim.vk _ _ hv)]
            | own r =>
              obtain ⟨w', q1, q2⟩ := ht
              rw [pushAll_get (dr.np r _ w' k1 q1 q2)]
            | bad => exact ht.elim
          have hce2 : peekAt sm.H p = some ce := by rw [peekAt_congr hrow]; exact hce
          have h4 := (I.run_peek (H2 := sm.H) hc h1).2.2 p ce hp hce hce2
          have h5 := chkL_sound dr ht hce hsm k2
          refine WpD.cons (s1 := { sm with e := put sm.e d u, lds := (k, p, ce) :: sm.lds }) (by simp only [D.run, O.want, hc, h4, hp, hce2, h5, cond_true]) ?_
          refine hR φ V K { s with e := nput s.e d w, lds := (k, t) :: s.lds } _ (Ext.refl _ _ _ _) ⟨dr.sim, dr.en.put d h2, dr.vH, dr.np, dr.npn, dr.okH, fun j p' ce' hf => ?_, dr.hbs, fun j x hj => ?_⟩ k3
          simp only [findN, beq_eq, cond_eq_ite, decide_eq_true_eq] at hf ⊢
          by_cases hj : k = j
          · rw [if_pos hj] at hf ⊢
            cases hf
            have hld : ldOk (pushAll sm.H sm.pend) p ce = true := by
              unfold ldOk
              rw [hce]
              simp only [hsm, Nat.beq_refl, Bool.and_self]
            refine ⟨t, rfl, ?_⟩
            cases t with
            | frz => exact ⟨ht, hld⟩
            | own r => obtain ⟨w', q1, q2⟩ := ht; exact ⟨⟨w', q1⟩, q2, hld⟩
            | bad => exact trivial
          · rw [if_neg hj] at hf ⊢
            exact dr.lds j p' ce' hf
          · simp only [findN, beq_eq, cond_eq_ite, decide_eq_true_eq] at hj
            split at hj
            · omega
            · exact Nat.lt_succ_of_lt (dr.lk j x hj)
    | alloc =>
      rw [hc] at hk
      have hal : ∃ es z, i = .alloc es z := by cases i <;> first | (cases hc; done) | exact ⟨_, _, rfl⟩
      obtain ⟨es, z, rfl⟩ := hal
      obtain ⟨φ', H', u, h1, h2, h3, h4, h5⟩ := nact_sound dr.en dr.sim (.inr hc) hr
      simp only [I.run, Option.some.injEq, Prod.mk.injEq] at h1
      obtain ⟨rfl, rfl⟩ := h1
      have e1 : pushAll sm.H (sm.pend ++ [⟨z, es, true, some es⟩]) = (pushAll sm.H sm.pend).push ⟨z, es, true, some es⟩ := pushAll_snoc _ _ _
      refine WpD.cons (s1 := { sm with e := put sm.e d (.pointer (some ⟨sm.H.size + sm.pend.length, 0, none⟩)), pend := sm.pend ++ [⟨z, es, true, some es⟩] }) (by simp only [D.run, O.want, hc]) ?_
      rw [pushAll_size] at h4
      simp only [nrun] at hr
      cases hz : nvCs z with
      | none => rw [hz] at hr; cases hr
      | some zc =>
        rw [hz] at hr
        cases hr
        have hnew : ∀ r, r < s.h.nx → (s.h.push ⟨[zc], zc.length, es, true, some es⟩).get r = s.h.get r := fun r hr => by rw [NHeap.get_push, if_neg (by omega)]
        have hold : ∀ r b w', r < s.h.nx → φ' r = some (.at b w') → s.h.get r ≠ none → φ r = some (.at b w') := fun r b w' e1 e2 e3 => by
          cases hg : s.h.get r with
          | none => exact absurd hg e3
          | some row =>
            rcases dr.sim.rows r row hg with ⟨p, _⟩ | ⟨b', p, _⟩
            · rw [h2.phi _ _ p] at e2; cases e2
            · have := h2.phi _ _ p
              rw [this] at e2
              cases e2
              exact p
        refine hR φ' V K { s with e := nput s.e d (.ptr s.h.nx 0 0), h := s.h.push ⟨[zc], zc.length, es, true, some es⟩ } _ (by show Ext _ _ _ _ _ _ _ (pushAll sm.H (sm.pend ++ [_])); rw [e1]; exact h2) ⟨by show SimH _ _ _ _ (pushAll sm.H (sm.pend ++ [_])); rw [e1]; exact h3, (dr.en.mono h2.phi (View.le_refl _)).put d h4, dr.vH, fun r b w' e2 e3 e4 => ?_, Nat.le_trans dr.npn (by simp [NHeap.push]), dr.okH, fun j p ce hf => ?_, fun j Hj hf => ?_, fun j x hj => Nat.lt_succ_of_lt (dr.lk j x hj)⟩ hk
        · have hlt : r < s.h.nx := Nat.lt_of_lt_of_le e2 dr.npn
          have e4' : s.h.get r ≠ none := by rw [← hnew r hlt]; exact e4
          exact dr.np r b w' e2 (hold r b w' hlt e3 e4') e4'
        · obtain ⟨t, f1, f2⟩ := dr.lds j p ce hf
          refine ⟨t, f1, ?_⟩
          have hrowsame : (pushAll sm.H sm.pend).get p.1 ≠ none → (pushAll sm.H (sm.pend ++ [⟨z, es, true, some es⟩])).get p.1 = (pushAll sm.H sm.pend).get p.1 := fun hne => by
            cases hg : (pushAll sm.H sm.pend).get p.1 with
            | none => exact absurd hg hne
            | some row =>
              have := dr.sim.ok _ _ hg
              rw [e1, Heap.get_push, if_neg (by omega), hg]
          have hpk : ldOk (pushAll sm.H sm.pend) p ce = true → ldOk (pushAll sm.H (sm.pend ++ [⟨z, es, true, some es⟩])) p ce = true := fun hld => by
            rw [ldOk_congr (hrowsame ?_)]
            · exact hld
            · intro hn
              have := ldOk_eq hld
              unfold peekAt at this
              rw [hn] at this
              cases this
          cases t with
          | frz => exact ⟨f2.1, hpk f2.2⟩
          | own r =>
            obtain ⟨⟨w', g1⟩, g2, g3⟩ := f2
            have hlt : r < s.h.nx := by
              cases hg : s.h.get r with
              | none => exact absurd hg g2
              | some row => exact dr.sim.live hg
            exact ⟨⟨w', h2.phi _ _ g1⟩, by show (s.h.push _).get r ≠ none; rw [hnew r hlt]; exact g2, hpk g3⟩
          | bad => exact trivial
        · obtain ⟨nx, T, g, f1, f0, f2, f3⟩ := dr.hbs j Hj hf
          refine ⟨nx, T, g, f1, Nat.le_trans f0 (by simp [NHeap.push]), f2, fun r b w' g1 g2 g3 g4 => ?_⟩
          have hlt : r < s.h.nx := Nat.lt_of_lt_of_le g1 f0
          have g4' : s.h.get r ≠ none := by rw [← hnew r hlt]; exact g4
          have g3' := hold r b w' hlt g3 g4'
          rw [f3 r b w' g1 g2 g3' g4']
          show _ = (pushAll sm.H (sm.pend ++ [_])).get b
          cases hg : s.h.get r with
          | none => exact absurd hg g4'
          | some row =>
            obtain ⟨_, ⟨c, t, q, _⟩, _⟩ := dr.sim.row_at hg g3'
            have := dr.sim.ok _ _ q
            rw [e1, Heap.get_push, if_neg (by omega)]
    | act =>
      rw [hc] at hk
      obtain ⟨φ', H', u, h1, h2, h3, h4, h5⟩ := nact_sound dr.en dr.sim (.inl hc) hr
      obtain ⟨k1, s', k2, k3⟩ := dr.call h2 h3 h4 h5 (fun _ => rfl) hk
      refine WpD.cons (s1 := { sm with e := put sm.e d u, H := H', pend := [], hbs := (k, sm.H) :: sm.hbs }) (by simp only [D.run, O.want, hc, h1, k1, cond_true]) (hR φ' V K _ _ h2 k2 k3)
  · simp only [ndstep] at hk
    split at hk
    · rename_i vs hv
      obtain ⟨us, e1, k1⟩ := nevs_sound dr.en hv
      obtain ⟨T, g, hk⟩ := hk
      refine WpD.call e1 ((hk φ V K _ us dr.sim k1).mono fun u H' ⟨φ', V', K', h', w, c1, c2, c3, c4, c5, c6⟩ => ?_)
      obtain ⟨q1, s', q2, q3⟩ := dr.call (d := d) c1 c2 c3 c4 c5 c6
      exact ⟨q1, hR _ _ _ _ _ c1 q2 q3⟩
    · exact hk.elim
  · simp only [ndstep] at hk
    split at hk
    · rename_i f caps vs hf hv
      obtain ⟨us, e1, k1⟩ := nevs_sound dr.en hv
      obtain ⟨uf, e2, k2⟩ := nev_sound dr.en hf
      obtain ⟨a, rfl, k3⟩ := k2.fn
      obtain ⟨T, g, hk⟩ := hk
      refine WpD.callv e2 e1 ((hk φ V K _ (us ++ a.toList) dr.sim (L2.append k1 (k3.imp fun _ _ => N3.of1))).mono fun u H' ⟨φ', V', K', h', w, c1, c2, c3, c4, c5, c6⟩ => ?_)
      obtain ⟨q1, s', q2, q3⟩ := dr.call (d := d) c1 c2 c3 c4 c5 c6
      exact ⟨q1, hR _ _ _ _ _ c1 q2 q3⟩
    · exact hk.elim
end
end Go.Proofs.Ytnjmdkecpadehaa.M
