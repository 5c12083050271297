/- The framework N, ninth text: pieces of code; bodies of functions; what is given up, frozen, lent. Conditions: as the laws say. -/
import Derived.Test.YtnjmdkecpadehaaN8
set_option linter.all false
set_option linter.unusedSimpArgs false
namespace Go.Proofs.Ytnjmdkecpadehaa.M

section
variable {F : Nat → Option Fun}
theorem nds_sound : ∀ {ds : List D} {k : Nat} {s : NDS} {Q : NDS → Prop}, nds F k ds s Q → ∀ {φ : NPhi} {V K : View} {sm : DS}, DR φ V K k s sm → WpD F k ds sm (DPost φ V K (pushAll sm.H sm.pend) Q)
  | [], k, s, Q, hk, φ, V, K, sm, dr => WpD.nil ⟨φ, V, K, s, Ext.refl _ _ _ _, ⟨_, dr⟩, hk⟩
  | ⟨⟨d, none, i⟩, chk⟩ :: r, k, s, Q, hk, φ, V, K, sm, dr => by
    refine ndstep_sound hk dr fun φ' V' K' s' sm' x dr' hk' => (nds_sound hk' dr').mono fun s2 ⟨φ2, V2, K2, s3, c1, c2, c3⟩ => ⟨φ2, V2, K2, s3, x.trans c1, c2, c3⟩
  | ⟨⟨d, some (t, b), i⟩, chk⟩ :: r, k, s, Q, hk, φ, V, K, sm, dr => by
    simp only [nds] at hk
    split at hk
    · rename_i p hp
      obtain ⟨up, e1, k1⟩ := dr.en t _ hp
      obtain ⟨rfl, _⟩ := k1.v
      split at hk
      · rename_i hpb
        subst hpb
        rw [WpD_want (by simp only [O.want, e1, beq_self_eq_true])]
        exact ndstep_sound hk dr fun φ' V' K' s' sm' x dr' hk' => (nds_sound hk' dr').mono fun s2 ⟨φ2, V2, K2, s3, c1, c2, c3⟩ => ⟨φ2, V2, K2, s3, x.trans c1, c2, c3⟩
      · rename_i hpb
        have hpb' : (p == b) = false := by simpa using hpb
        rw [WpD_skip (by simp only [O.want, e1, hpb'])]
        exact nds_sound (sm := { sm with e := put sm.e d unit }) hk ⟨dr.sim, dr.en.put d N3.unit, dr.vH, dr.np, dr.npn, dr.okH, dr.lds, dr.hbs, fun j x hj => Nat.lt_succ_of_lt (dr.lk j x hj)⟩
    · rename_i vs hp
      obtain ⟨up, e1, k1⟩ := dr.en t _ hp
      obtain ⟨a, rfl, _⟩ := k1.tup
      rw [WpD_skip (by simp only [O.want, e1])]
      exact nds_sound (sm := { sm with e := put sm.e d unit }) hk ⟨dr.sim, dr.en.put d N3.unit, dr.vH, dr.np, dr.npn, dr.okH, dr.lds, dr.hbs, fun j x hj => Nat.lt_succ_of_lt (dr.lk j x hj)⟩
    · exact hk.elim

/-! ### Pieces of code -/
def nThen (K : NEnv → NHeap → Prop) (Q : Out → NEnv → NHeap → Prop) : Out → NEnv → NHeap → Prop
  | .nrm, e, h => K e h
  | o, e, h => Q o e h
def nInBlk (id : Nat) (Q : Out → NEnv → NHeap → Prop) : Out → NEnv → NHeap → Prop
  | .ex i, e, h => if i = id then Q .nrm e h else Q (.ex i) e h
  | o, e, h => Q o e h
def nreg (keep : List Nat) (Q : Out → NEnv → NHeap → Prop) (e : NEnv) (h : NHeap) : Prop := Q .nrm (nkeep e keep) h
def nregD (keep : List Nat) (Q : Out → NEnv → NHeap → Prop) (s : NDS) : Prop := Q .nrm (nkeep s.e keep) s.h
def nwp (F : Nat → Option Fun) : C → NEnv → NHeap → (Out → NEnv → NHeap → Prop) → Prop
  | .reg ops keep, e, h, Q => nops F ops e h (nreg keep Q)
  | .dreg ops keep, e, h, Q => nds F 0 ops ⟨e, h, h.nx, [], []⟩ (nregD keep Q)
  | .seq a b, e, h, Q => nwp F a e h (nThen (fun e h => nwp F b e h Q) Q)
  | .cond x a b, e, h, Q => match nev e x with
    | some (.v (.bool true)) => nwp F a e h Q
    | some (.v (.bool false)) => nwp F b e h Q
    | _ => False
  | .blk id c, e, h, Q => nwp F c e h (nInBlk id Q)
  | .loop c, e, h, Q => NWp F (.loop c) e h Q
  | .exit id, e, h, Q => Q (.ex id) e h
  | .ret, e, h, Q => Q .ret e h
  | .skip, e, h, Q => Q .nrm e h
  | .dead, _, _, _ => False
theorem NWp.seq {a b : C} {e : NEnv} {h : NHeap} {Q : Out → NEnv → NHeap → Prop} (k : NWp F a e h (nThen (fun e h => NWp F b e h Q) Q)) : NWp F (.seq a b) e h Q := fun φ V K H em sim he => by
  refine Wp.seq ((k φ V K H em sim he).mono fun o em' H' ⟨φ', V', K', e', h', c1, c2, c3, c4⟩ => ?_)
  cases o with
  | nrm => exact (c4 φ' V' K' H' em' c2 c3).mono fun o em2 H2 ⟨φ2, V2, K2, e2, h2, d1, d2, d3, d4⟩ => ⟨φ2, V2, K2, e2, h2, c1.trans d1, d2, d3, d4⟩
  | ex i => exact ⟨φ', V', K', e', h', c1, c2, c3, c4⟩
  | ret => exact ⟨φ', V', K', e', h', c1, c2, c3, c4⟩
theorem NWp.loop1 {c : C} {e : NEnv} {h : NHeap} {Q : Out → NEnv → NHeap → Prop} (k : NWp F c e h (nThen (fun e h => NWp F (.loop c) e h Q) Q)) : NWp F (.loop c) e h Q := fun φ V K H em sim he => by
  refine Wp.loop ((k φ V K H em sim he).mono fun o em' H' ⟨φ', V', K', e', h', c1, c2, c3, c4⟩ => ?_)
  cases o with
  | nrm => exact (c4 φ' V' K' H' em' c2 c3).mono fun o em2 H2 ⟨φ2, V2, K2, e2, h2, d1, d2, d3, d4⟩ => ⟨φ2, V2, K2, e2, h2, c1.trans d1, d2, d3, d4⟩
  | ex i => exact ⟨φ', V', K', e', h', c1, c2, c3, c4⟩
  | ret => exact ⟨φ', V', K', e', h', c1, c2, c3, c4⟩
theorem nwp_mono : ∀ {c : C} {e : NEnv} {h : NHeap} {Q Q' : Out → NEnv → NHeap → Prop}, (∀ o e h, Q o e h → Q' o e h) → nwp F c e h Q → NWp F c e h Q' := by
  intro c
  induction c with
  | reg ops keep =>
    intro e h Q Q' hq hk φ V K H em sim he
    refine Wp.ops ?_
    obtain ⟨n, em', H', h1, φ', V', K', e', h', c1, c2, c3, c4⟩ := nops_sound (F := F) hk sim he
    exact ⟨n, em', H', h1, φ', V', K', nkeep e' keep, h', c1, c2, c3.keep keep, hq _ _ _ c4⟩
  | dreg ops keep =>
    intro e h Q Q' hq hk φ V K H em sim he
    refine Wp.dops ?_
    have dr : DR φ V K 0 ⟨e, h, h.nx, [], []⟩ ⟨em, H, [], [], []⟩ := ⟨sim, he, sim.vk.trans sim.kh, fun r b w e1 e2 e3 => by
      cases hg : h.get r with
      | none => exact absurd hg e3
      | some row =>
        obtain ⟨_, ⟨c, t, q, _⟩, _⟩ := sim.row_at hg e2
        exact sim.ok _ _ q, Nat.le_refl _, sim.ok, fun j p ce hf => (by simp [findN] at hf), fun j Hj hf => (by simp [findN] at hf), fun j x hf => (by simp [findN] at hf)⟩
    refine (nds_sound (F := F) hk dr).mono fun sm' ⟨φ', V', K', s', c1, ⟨k', c2⟩, c3⟩ => ?_
    exact ⟨φ', V', K', nkeep s'.e keep, s'.h, c1, c2.sim, c2.en.keep keep, hq _ _ _ c3⟩
  | seq a b iha ihb =>
    intro e h Q Q' hq hk
    refine NWp.seq (iha (fun o e h k => ?_) hk)
    cases o with
    | nrm => exact ihb hq k
    | ex i => exact hq _ _ _ k
    | ret => exact hq _ _ _ k
  | cond x a b iha ihb =>
    intro e h Q Q' hq hk φ V K H em sim he
    simp only [nwp] at hk
    split at hk
    · rename_i hx
      obtain ⟨u, e1, k1⟩ := nev_sound he hx
      obtain ⟨rfl, _⟩ := k1.v
      exact Wp.cond e1 (fun _ => iha hq hk φ V K H em sim he) (fun e => by cases e)
    · rename_i hx
      obtain ⟨u, e1, k1⟩ := nev_sound he hx
      obtain ⟨rfl, _⟩ := k1.v
      exact Wp.cond e1 (fun e => by cases e) (fun _ => ihb hq hk φ V K H em sim he)
    · exact hk.elim
  | blk id c ih =>
    intro e h Q Q' hq hk φ V K H em sim he
    refine Wp.blk ((ih (Q' := nInBlk id Q') (fun o e h k => ?_) hk φ V K H em sim he).mono fun o em' H' ⟨φ', V', K', e', h', c1, c2, c3, c4⟩ => ?_)
    · cases o with
      | nrm => exact hq _ _ _ k
      | ret => exact hq _ _ _ k
      | ex i =>
        simp only [nInBlk] at k ⊢
        split at k
        · rename_i hi; rw [if_pos hi]; exact hq _ _ _ k
        · rename_i hi; rw [if_neg hi]; exact hq _ _ _ k
    · cases o with
      | nrm => exact ⟨φ', V', K', e', h', c1, c2, c3, c4⟩
      | ret => exact ⟨φ', V', K', e', h', c1, c2, c3, c4⟩
      | ex i =>
        simp only [nInBlk] at c4
        simp only [InBlk]
        split at c4
        · rename_i hi; rw [if_pos hi]; exact ⟨φ', V', K', e', h', c1, c2, c3, c4⟩
        · rename_i hi; rw [if_neg hi]; exact ⟨φ', V', K', e', h', c1, c2, c3, c4⟩
  | loop c ih => intro e h Q Q' hq hk; exact NWp.mono hk hq
  | exit id => intro e h Q Q' hq hk φ V K H em sim he; exact Wp.exit ⟨φ, V, K, e, h, Ext.refl _ _ _ _, sim, he, hq _ _ _ hk⟩
  | ret => intro e h Q Q' hq hk φ V K H em sim he; exact Wp.ret ⟨φ, V, K, e, h, Ext.refl _ _ _ _, sim, he, hq _ _ _ hk⟩
  | skip => intro e h Q Q' hq hk φ V K H em sim he; exact Wp.skip ⟨φ, V, K, e, h, Ext.refl _ _ _ _, sim, he, hq _ _ _ hk⟩
  | dead => intro e h Q Q' hq hk; exact hk.elim
theorem nwp_sound {c : C} {e : NEnv} {h : NHeap} {Q : Out → NEnv → NHeap → Prop} (hk : nwp F c e h Q) : NWp F c e h Q := nwp_mono (fun _ _ _ k => k) hk
/-- Behind a round of a loop. -/
def nround (F : Nat → Option Fun) (c : C) (Q : Out → NEnv → NHeap → Prop) : Out → NEnv → NHeap → Prop := nThen (fun e h => NWp F (.loop c) e h Q) Q
theorem NWp.loop {c : C} {e : NEnv} {h : NHeap} {Q : Out → NEnv → NHeap → Prop} (hk : nwp F c e h (nround F c Q)) : NWp F (.loop c) e h Q := NWp.loop1 (nwp_sound hk)

/-! ### Bodies of functions -/
def ncellO (h : NHeap) (agg : Bool) (n : Nat) : Option NV → Option NV
  | some (.ptr r i o) => match nload h agg n (.ptr r i o) with
    | some (v, _) => some v
    | none => none
  | _ => none
def nresOf (e : NEnv) (h : NHeap) : List R → Option (List NV)
  | [] => some []
  | .t n :: r => match nlook e n, nresOf e h r with
    | some v, some vs => some (v :: vs)
    | _, _ => none
  | .c a agg n :: r => match ncellO h agg n (nlook e a), nresOf e h r with
    | some v, some vs => some (v :: vs)
    | _, _ => none
def nresV : List NV → Option NV
  | [v] => some v
  | vs => if vs.all isFlat1 = true then some (.tup vs) else none
def nback (Q : NV → NHeap → Prop) (h : NHeap) : Option (List NV) → Prop
  | some rs => match nresV rs with
    | some w => Q w h
    | none => False
  | none => False
/-- A body that comes to its end. -/
def nbody (res : List R) (Q : NV → NHeap → Prop) : Out → NEnv → NHeap → Prop
  | .nrm, e, h => nback Q h (nresOf e h res)
  | .ret, e, h => nback Q h (nresOf e h res)
  | .ex _, _, _ => False
section
variable {φ : NPhi} {V : View} {e : NEnv} {em : Env}
theorem flat1_sound {x : NV} {u : Value} (hf : isFlat1 x = true) (h : N3 φ V x u) : N1 φ V x u ∧ simpleV u = true := by
  cases x <;> try (simp [isFlat1] at hf; done)
  case v x =>
    refine ⟨h, ?_⟩
    obtain ⟨rfl, hf⟩ := h.v
    unfold flatV at hf
    split at hf <;> first
      | rfl
      | cases hf
  case nils => exact ⟨h, by rw [h.nils]; rfl⟩
  case emp => exact ⟨h, by obtain ⟨_, _, _, rfl, _⟩ := h.emp; rfl⟩
  case fsl =>
    refine ⟨h, ?_⟩
    obtain ⟨cells, k, _⟩ := h.fsl
    rcases k with ⟨_, _, a, rfl, _⟩ | ⟨b, off, c, row, rfl, _⟩ <;> rfl
  case sl =>
    refine ⟨h, ?_⟩
    rcases h.sl with ⟨_, _, _, _, rfl⟩ | ⟨b, w, _, rfl⟩ <;> rfl
  case ptr => exact ⟨h, by obtain ⟨_, _, _, rfl⟩ := h.ptr; rfl⟩
  case fptr => exact ⟨h, by obtain ⟨_, _, _, _, _, _, _, _, _, rfl⟩ := h.fptr; rfl⟩
  case agg => exact ⟨h, by obtain ⟨_, rfl, _⟩ := h.agg; rfl⟩
theorem flat1s_sound : ∀ {l : List NV} {us : List Value}, l.all isFlat1 = true → L2 (N3 φ V) l us → L2 (N1 φ V) l us ∧ us.all simpleV = true
  | [], us, _, h => by rw [h.nil_left]; exact ⟨trivial, rfl⟩
  | a :: l, us, h1, h2 => by
    obtain ⟨b, y', rfl, g1, g2⟩ := h2.cons_left
    simp only [List.all_cons, Bool.and_eq_true] at h1
    obtain ⟨i1, i2⟩ := flat1s_sound h1.2 g2
    obtain ⟨j1, j2⟩ := flat1_sound h1.1 g1
    exact ⟨⟨j1, i1⟩, by simp only [List.all_cons, j2, i2, Bool.and_self]⟩
theorem nresOf_sound {K : View} {h : NHeap} {H : Heap} (he : EN φ V e em) (sim : SimH φ V K h H) : ∀ {res : List R} {rs : List NV}, nresOf e h res = some rs → ∃ us, resOf em H res = some us ∧ L2 (N3 φ V) rs us
  | [], rs, hr => by cases hr; exact ⟨[], rfl, trivial⟩
  | .t n :: r, rs, hr => by
    simp only [nresOf] at hr
    split at hr <;> cases hr
    rename_i h1 h2
    obtain ⟨u, e1, k1⟩ := he n _ h1
    obtain ⟨us, e2, k2⟩ := nresOf_sound he sim h2
    exact ⟨u :: us, by simp only [resOf, e1, e2], k1, k2⟩
  | .c a agg n :: r, rs, hr => by
    simp only [nresOf] at hr
    split at hr <;> cases hr
    rename_i v vs h1 h2
    obtain ⟨us, e2, k2⟩ := nresOf_sound he sim h2
    unfold ncellO at h1
    split at h1
    · rename_i r0 i o ha
      split at h1 <;> cases h1
      rename_i h3 hld
      have hrun : nrun e h (.load agg n (.t a)) = some (v, h3) := by simp only [nrun, nev, ha, nap1]; exact hld
      obtain ⟨_, u, q1, q2, _⟩ := nload_sound he sim rfl hrun
      obtain ⟨ua, e3, k3⟩ := he a _ ha
      obtain ⟨b, w, p, rfl⟩ := k3.ptr
      simp only [I.run, ev_t, e3] at q1
      split at q1
      · rename_i cs hcs
        refine ⟨u :: us, ?_, q2, k2⟩
        simp only [resOf, e3, e2, hcs]
        simp only [cond_eq_ite] at q1 ⊢
        split at q1
        · rename_i hag; cases q1; simp [hag]
        · rename_i hag
          split at q1 <;> cases q1
          simp [hag]
      · cases q1
    · cases h1
theorem nresV_sound : ∀ {rs : List NV} {us : List Value} {w : NV}, nresV rs = some w → L2 (N3 φ V) rs us → ∃ u, resV us = some u ∧ N3 φ V w u
  | [v], us, w, h, k => by
    cases h
    obtain ⟨b, y, rfl, k1, k2⟩ := k.cons_left
    rw [k2.nil_left]
    exact ⟨b, rfl, k1⟩
  | [], us, w, h, k => by
    rw [k.nil_left]
    simp only [nresV, List.all_nil, if_true] at h
    cases h
    exact ⟨.tuple #[], rfl, #[], rfl, trivial⟩
  | a :: b :: r, us, w, h, k => by
    simp only [nresV] at h
    split at h <;> cases h
    rename_i hall
    obtain ⟨k1, k2⟩ := flat1s_sound hall k
    obtain ⟨x, y, rfl, _, l2⟩ := k.cons_left
    obtain ⟨x2, y2, rfl, _, _⟩ := l2.cons_left
    refine ⟨.tuple (x :: x2 :: y2).toArray, ?_, _, rfl, k1⟩
    simp only [resV, k2, cond_true]
end
theorem NCall.body {f : Nat} {m : MF} (hf : F f = some (.code m)) {vs : List NV} {h : NHeap} {Q : NV → NHeap → Prop} (hn : vs.length = m.na) (hk : NWp F m.body (nenum 0 vs) h (nbody m.res Q)) : NCall F f vs h Q := fun φ V K H us sim hv => by
  refine Cw.code hf (by rw [← hv.length]; exact hn) ((hk φ V K H _ sim (EN.enum 0 hv)).mono fun o em' H' ⟨φ', V', K', e', h', c1, c2, c3, c4⟩ => ?_)
  have key : nback Q h' (nresOf e' h' m.res) → ∃ rs v, resOf em' H' m.res = some rs ∧ resV rs = some v ∧ ∃ φ' V' K' h' w, Ext φ V K H φ' V' K' H' ∧ SimH φ' V' K' h' H' ∧ N3 φ' V' w v ∧ Q w h' := fun hb => by
    unfold nback at hb
    split at hb
    · rename_i rs hrs
      split at hb
      · rename_i w hw
        obtain ⟨us, e1, k1⟩ := nresOf_sound c3 c2 hrs
        obtain ⟨u, e2, k2⟩ := nresV_sound hw k1
        exact ⟨us, u, e1, e2, φ', V', K', h', w, c1, c2, k2, hb⟩
      · exact hb.elim
    · exact hb.elim
  cases o with
  | nrm => exact ⟨.inl rfl, key c4⟩
  | ret => exact ⟨.inr rfl, key c4⟩
  | ex i => exact c4.elim
theorem NCall.code {f : Nat} {m : MF} (hf : F f = some (.code m)) {vs : List NV} {h : NHeap} {Q : NV → NHeap → Prop} (hn : vs.length = m.na) (hk : nwp F m.body (nenum 0 vs) h (nbody m.res Q)) : NCall F f vs h Q := NCall.body hf hn (nwp_sound hk)
end
end Go.Proofs.Ytnjmdkecpadehaa.M
